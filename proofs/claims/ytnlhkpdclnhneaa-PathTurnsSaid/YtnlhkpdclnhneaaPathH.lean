import Derived.Test.YtnlhkpdclnhneaaPathG
namespace Go.Proofs.Ytnlhkpdclnhneaa
open Go.RowKit
attribute [local irreducible] Go.Calls
/-! a bit turned, in plain Lean -/
theorem ofNat_u8 (n : Nat) (h : n ≤ 255) : (UInt8.ofNat n).toNat = n := by simp; omega
theorem kn_turn (k : Dig) (i j : Nat) (hj : j < 32) (hi : i < 256) : kn (turnM k i) j = if j = i / 8 then kn k j ^^^ 2 ^ (7 - i % 8) else kn k j := by
  unfold turnM
  rw [kn_set _ _ _ _ hj]
  by_cases h : i / 8 = j
  · rw [if_pos h, if_pos h.symm, h, ofNat_u8]
    exact xor_le _ _ (kn_le _ _) (pow_le _)
  · rw [if_neg h, if_neg (fun e => h e.symm)]
theorem xor_xor (m n : Nat) : m ^^^ n ^^^ n = m := by rw [Nat.xor_assoc, Nat.xor_self, Nat.xor_zero]
theorem turn_turn (k : Dig) (i : Nat) (hi : i < 256) : turnM (turnM k i) i = k := by
  apply dig_ext
  intro j hj
  rw [kn_turn _ _ _ hj hi, kn_turn _ _ _ hj hi]
  by_cases h : j = i / 8
  · rw [if_pos h, if_pos h, xor_xor]
  · rw [if_neg h, if_neg h]
theorem bit_turn_ne (k : Dig) (i j : Nat) (hi : i < 256) (hj : j < 256) (h : ¬ j = i) : bitN (turnM k i) j = bitN k j := by
  unfold bitN
  rw [kn_turn _ _ _ (by omega) hi]
  by_cases h8 : j / 8 = i / 8
  · rw [if_pos h8, bit_test, bit_test, Nat.testBit_xor, Nat.testBit_two_pow_of_ne (by omega)]
    simp
  · rw [if_neg h8]
theorem bit_turn_eq (k : Dig) (i : Nat) (hi : i < 256) : bitN (turnM k i) i = 1 - bitN k i := by
  unfold bitN
  rw [kn_turn _ _ _ (by omega) hi, if_pos rfl, bit_test, bit_test, Nat.testBit_xor, Nat.testBit_two_pow_self]
  cases (kn k (i / 8)).testBit (7 - i % 8) <;> rfl
theorem shared_turn (k : Dig) (i : Nat) (hi : i < 256) : sharedD k (turnM k i) = i := by
  refine shared_uniq (shared_is _ _) ⟨fun j hj => (bit_turn_ne k i j hi (by omega) (by omega)).symm, .inr ⟨hi, ?_⟩⟩
  rw [bit_turn_eq k i hi]
  have := bitN_le k i
  omega
theorem ahead_turn (k : Dig) (i : Nat) (hi : i < 256) : aheadD k (turnM k i) = decide (bitN k i = 0) := by
  rw [ahead_is, shared_turn k i hi, bit_turn_eq k i hi]
  have := bitN_le k i
  exact decide_eq_decide.2 (by omega)
/-! all bits together -/
def mkD (f : Nat → Nat) : Dig := ⟨(List.range 32).map (fun i => UInt8.ofNat (f i)), by simp⟩
theorem kn_mk (f : Nat → Nat) (i : Nat) (hi : i < 32) (h : f i ≤ 255) : kn (mkD f) i = f i := by
  unfold kn mkD
  simp only [List.getElem?_map, List.getElem?_range hi, Option.map_some, Option.getD_some]
  exact ofNat_u8 _ h
def accN (k : Dig) (j i : Nat) : Nat := kn k i / 2 ^ (8 - min 8 (j - 8 * i))
theorem accN_le (k : Dig) (j i : Nat) : accN k j i ≤ 255 := Nat.le_trans (Nat.div_le_self _ _) (kn_le k i)
@[irreducible] def accD (k : Dig) (j : Nat) : Dig := mkD (accN k j)
theorem kn_acc (k : Dig) (j i : Nat) (hi : i < 32) : kn (accD k j) i = accN k j i := by unfold accD; exact kn_mk _ _ hi (accN_le _ _ _)
theorem acc_zero (k : Dig) : accD k 0 = zeroD := by
  apply dig_ext
  intro i hi
  rw [kn_acc _ _ _ hi]
  have h1 := kn_le k i
  have h2 : kn zeroD i = 0 := by
    unfold kn zeroD
    simp only [List.getElem?_replicate]
    split <;> rfl
  rw [h2]; unfold accN
  rw [show 8 - min 8 (0 - 8 * i) = 8 by omega]
  omega
theorem acc_all (k : Dig) : accD k 256 = k := by
  apply dig_ext
  intro i hi
  rw [kn_acc _ _ _ hi]; unfold accN
  rw [show 8 - min 8 (256 - 8 * i) = 0 by omega]
  omega
theorem acc_half (k : Dig) (j : Nat) : accN k j (j / 8) ≤ 127 := by
  have h1 := kn_le k (j / 8)
  unfold accN
  rw [show 8 - min 8 (j - 8 * (j / 8)) = (7 - j % 8) + 1 by omega, Nat.pow_succ, ← Nat.div_div_eq_div_mul]
  have := Nat.div_le_self (kn k (j / 8)) (2 ^ (7 - j % 8))
  omega
theorem acc_next (k : Dig) (j : Nat) (hj : j < 256) : setD (accD k j) (j / 8) (UInt8.ofNat (2 * accN k j (j / 8) + bitN k j)) = accD k (j + 1) := by
  have hh := acc_half k j
  have hb := bitN_le k j
  apply dig_ext
  intro i hi
  rw [kn_set _ _ _ _ hi, kn_acc _ _ _ hi, kn_acc _ _ _ hi]
  by_cases h : j / 8 = i
  · subst h
    rw [if_pos rfl, ofNat_u8 _ (by omega)]
    unfold accN bitN
    rw [show 8 - min 8 (j - 8 * (j / 8)) = (7 - j % 8) + 1 by omega, show 8 - min 8 (j + 1 - 8 * (j / 8)) = 7 - j % 8 by omega, Nat.pow_succ, ← Nat.div_div_eq_div_mul]
    omega
  · rw [if_neg h]; unfold accN
    rw [show min 8 (j - 8 * i) = min 8 (j + 1 - 8 * i) by omega]
theorem bit_n (k : Dig) (j : Nat) (w : World) (h : j < 256) :
    Calls Try.prog 10 #[.agg (dv k), .int .i64 (j : Int)] w fun e w' => e = .returned (.tuple #[.int .u8 (bitN k j), .int .i64 0]) ∧ Below w.heap.size w w' := by
  have := bit_in k j w (by omega) (by omega)
  rwa [Int.toNat_natCast] at this
theorem turns_no (k : Dig) (i : Int) (w : World) (h : i < 0 ∨ 256 ≤ i) : Calls Try.prog 6 #[.agg (dv k), .int .i64 i] w fun e w' => e = .returned (.bool true) ∧ Below w.heap.size w w' := by
  refine enter Try.func6 rfl (Nat.le_of_ble_eq_true rfl) (kn0 w) (vs := [_, _]) (fr0 := [(0, _), (1, _)]) rfl (n := 103) rfl ?_
  repeat (first
    | refine cw_seq ?_
    | refine cw_block ?_
    | refine cw_skip ?_
    | refine cw_label ?_
    | refine cw_exit ?_
    | refine cw_ret ?_
    | refine qw_then ?_
    | refine qw_block_normal ?_
    | refine qw_block_exit ?_
    | refine qw_block_other rfl ?_
    | refine qw_block_ret ?_
    | refine qw_then_ret ?_
    | refine qw_then_exit ?_
    | refine cw_true rfl ?_
    | refine cw_false rfl ?_
    | refine cw_scope ?_
    | refine qw_scope_normal ?_
    | refine qw_scope_ret ?_
    | refine qw_scope_exit ?_
    | (refine cw_region (id := 0) ?_
       first | (refine o_a rfl (al_box_agg rfl) (fun b2 fb2 => ?_); try simp only [fresh_iff, keysOf, List.map_cons, List.map_nil, List.forall_mem_cons, List.not_mem_nil, false_imp_iff, implies_true, and_true] at fb2) | (refine o_a rfl (al_box rfl) (fun b2 fb2 => ?_); try simp only [fresh_iff, keysOf, List.map_cons, List.map_nil, List.forall_mem_cons, List.not_mem_nil, false_imp_iff, implies_true, and_true] at fb2)
       refine o_p rfl rfl ?_
       refine ow_nil ?_)
    | (refine cw_region (id := 1) ?_
       (refine o_c rfl rfl rfl en7 rfl (fun s hs => (alive_c _).mono ?_); rintro e w' ⟨rfl, hb⟩; refine ⟨_, _, _, rfl, hs.grow hb, ?_⟩; clear hb hs w' s)
       refine o_p rfl rfl ?_
       refine ow_nil ?_)
    | (refine cw_region (id := 2) ?_
       first | refine o_r rfl (rd_load_all rfl (by repeat (first | exact List.Mem.head _ | apply List.Mem.tail)) agg23 (by simp)) ?_ | refine o_r rfl (rd_load_agg rfl (by repeat (first | exact List.Mem.head _ | apply List.Mem.tail)) agg23 (by simp [Value.cells]) (by first | rfl | simp [Value.cells])) ?_
       refine o_p rfl rfl ?_
       first | (refine o_c rfl rfl rfl en11 rfl (fun s hs => (turn_in _ _ _ (by omega) (by omega)).mono ?_); rintro e w' ⟨rfl, hb⟩; refine ⟨_, _, _, rfl, hs.grow hb, ?_⟩; clear hb hs w' s) | (refine o_c rfl rfl rfl en11 rfl (fun s hs => (turn_no _ _ _ (by omega)).mono ?_); rintro e w' ⟨rfl, hb⟩; refine ⟨_, _, _, rfl, hs.grow hb, ?_⟩; clear hb hs w' s)
       refine o_p rfl rfl ?_
       refine o_p rfl rfl ?_
       refine o_p rfl rfl ?_
       first | (refine o_a rfl (al_alloc_agg zero23) (fun b6 fb6 => ?_); try simp only [fresh_iff, keysOf, List.map_cons, List.map_nil, List.forall_mem_cons, List.not_mem_nil, false_imp_iff, implies_true, and_true] at fb6) | (refine o_a rfl (al_alloc zero23) (fun b6 fb6 => ?_); try simp only [fresh_iff, keysOf, List.map_cons, List.map_nil, List.forall_mem_cons, List.not_mem_nil, false_imp_iff, implies_true, and_true] at fb6)
       first | refine o_w rfl (wr_store_all rfl rfl agg23 (by simp) (by simp) (by repeat (first | exact Upd.here | apply Upd.there)) (by simp)) ?_ | refine o_w rfl (wr_store_agg rfl rfl agg23 (by simp [Value.cells]) (by first | rfl | simp [Value.cells]) (by first | rfl | exact splice_all _ _ (by simp [Value.cells])) (by repeat (first | exact Upd.here | apply Upd.there)) (by simp [Value.cells])) ?_
       refine o_p rfl rfl ?_
       refine ow_nil ?_)
    | (refine cw_region (id := 3) ?_
       refine o_p rfl rfl ?_
       first | refine o_r rfl (r_cmp rfl rfl rfl (cmp_t (by omega))) ?_ | refine o_r rfl (r_cmp rfl rfl rfl (cmp_f (by omega))) ?_ | refine o_r rfl (r_cmp rfl rfl rfl rfl) ?_
       refine ow_nil ?_)
    | (refine cw_region (id := 4) ?_
       refine o_p rfl rfl ?_
       refine o_p rfl rfl ?_
       first | refine o_k rfl ?_ | refine o_r rfl (rd_load_all rfl (by repeat (first | exact List.Mem.head _ | apply List.Mem.tail)) agg23 (by simp)) ?_ | refine o_r rfl (rd_load_agg rfl (by repeat (first | exact List.Mem.head _ | apply List.Mem.tail)) agg23 (by simp [Value.cells]) (by first | rfl | simp [Value.cells])) ?_
       first | refine o_k rfl ?_ | refine o_r rfl (rd_build rfl build_none) ?_
       first | refine o_k rfl ?_ | refine o_r rfl (rd_eql_agg eg23 rfl rfl (fun w => eqlt23 (by first | rfl | assumption) w)) ?_ | refine o_r rfl (rd_eql_agg eg23 rfl rfl (fun w => eqlf23 (by assumption) w)) ?_ | refine o_r rfl (rd_eql_agg eg23 rfl rfl (fun w => eql23 _ _ w)) ?_
       refine o_p rfl rfl ?_
       refine o_p rfl rfl ?_
       refine ow_nil ?_)
    | (refine cw_region (id := 5) ?_
       first | refine o_r rfl (rd_load_all rfl (by repeat (first | exact List.Mem.head _ | apply List.Mem.tail)) agg23 (by simp)) ?_ | refine o_r rfl (rd_load_agg rfl (by repeat (first | exact List.Mem.head _ | apply List.Mem.tail)) agg23 (by simp [Value.cells]) (by first | rfl | simp [Value.cells])) ?_
       refine o_p rfl rfl ?_
       first | (refine o_c rfl rfl rfl en11 rfl (fun s hs => (turn_in _ _ _ (by omega) (by omega)).mono ?_); rintro e w' ⟨rfl, hb⟩; refine ⟨_, _, _, rfl, hs.grow hb, ?_⟩; clear hb hs w' s) | (refine o_c rfl rfl rfl en11 rfl (fun s hs => (turn_no _ _ _ (by omega)).mono ?_); rintro e w' ⟨rfl, hb⟩; refine ⟨_, _, _, rfl, hs.grow hb, ?_⟩; clear hb hs w' s)
       refine o_p rfl rfl ?_
       refine o_p rfl rfl ?_
       refine o_p rfl rfl ?_
       first | (refine o_a rfl (al_alloc_agg zero23) (fun b8 fb8 => ?_); try simp only [fresh_iff, keysOf, List.map_cons, List.map_nil, List.forall_mem_cons, List.not_mem_nil, false_imp_iff, implies_true, and_true] at fb8) | (refine o_a rfl (al_alloc zero23) (fun b8 fb8 => ?_); try simp only [fresh_iff, keysOf, List.map_cons, List.map_nil, List.forall_mem_cons, List.not_mem_nil, false_imp_iff, implies_true, and_true] at fb8)
       first | refine o_w rfl (wr_store_all rfl rfl agg23 (by simp) (by simp) (by repeat (first | exact Upd.here | apply Upd.there)) (by simp)) ?_ | refine o_w rfl (wr_store_agg rfl rfl agg23 (by simp [Value.cells]) (by first | rfl | simp [Value.cells]) (by first | rfl | exact splice_all _ _ (by simp [Value.cells])) (by repeat (first | exact Upd.here | apply Upd.there)) (by simp [Value.cells])) ?_
       refine o_p rfl rfl ?_
       refine ow_nil ?_)
    | (refine cw_region (id := 6) ?_
       first | refine o_r rfl (rd_load_all rfl (by repeat (first | exact List.Mem.head _ | apply List.Mem.tail)) agg23 (by simp)) ?_ | refine o_r rfl (rd_load_agg rfl (by repeat (first | exact List.Mem.head _ | apply List.Mem.tail)) agg23 (by simp [Value.cells]) (by first | rfl | simp [Value.cells])) ?_
       refine o_p rfl rfl ?_
       first | (refine o_c rfl rfl rfl en10 rfl (fun s hs => (bit_n _ _ _ (by omega)).mono ?_); rintro e w' ⟨rfl, hb⟩; refine ⟨_, _, _, rfl, hs.grow hb, ?_⟩; clear hb hs w' s) | (refine o_c rfl rfl rfl en10 rfl (fun s hs => (bit_in _ _ _ (by omega) (by omega)).mono ?_); rintro e w' ⟨rfl, hb⟩; refine ⟨_, _, _, rfl, hs.grow hb, ?_⟩; clear hb hs w' s) | (refine o_c rfl rfl rfl en10 rfl (fun s hs => (bit_no _ _ _ (by omega)).mono ?_); rintro e w' ⟨rfl, hb⟩; refine ⟨_, _, _, rfl, hs.grow hb, ?_⟩; clear hb hs w' s)
       refine o_p rfl rfl ?_
       refine o_p rfl rfl ?_
       refine o_p rfl rfl ?_
       refine o_p rfl rfl ?_
       refine o_p rfl rfl ?_
       refine ow_nil ?_)
    | (refine cw_region (id := 7) ?_
       first | (refine o_a rfl (al_alloc_agg zero23) (fun b12 fb12 => ?_); try simp only [fresh_iff, keysOf, List.map_cons, List.map_nil, List.forall_mem_cons, List.not_mem_nil, false_imp_iff, implies_true, and_true] at fb12) | (refine o_a rfl (al_alloc zero23) (fun b12 fb12 => ?_); try simp only [fresh_iff, keysOf, List.map_cons, List.map_nil, List.forall_mem_cons, List.not_mem_nil, false_imp_iff, implies_true, and_true] at fb12)
       refine ow_nil ?_)
    | (refine cw_region (id := 8) ?_
       refine o_p rfl rfl ?_
       refine ow_nil ?_)
    | (refine cw_region (id := 9) ?_
       refine o_p rfl rfl ?_
       first | refine o_r rfl (r_cmp rfl rfl rfl (cmp_t (by omega))) ?_ | refine o_r rfl (r_cmp rfl rfl rfl (cmp_f (by omega))) ?_ | refine o_r rfl (r_cmp rfl rfl rfl rfl) ?_
       refine ow_nil ?_)
    | (refine cw_region (id := 11) ?_
       first | refine o_r rfl (rd_load_all rfl (by repeat (first | exact List.Mem.head _ | apply List.Mem.tail)) agg23 (by simp)) ?_ | refine o_r rfl (rd_load_agg rfl (by repeat (first | exact List.Mem.head _ | apply List.Mem.tail)) agg23 (by simp [Value.cells]) (by first | rfl | simp [Value.cells])) ?_
       refine o_p rfl rfl ?_
       first | (refine o_c rfl rfl rfl en10 rfl (fun s hs => (bit_n _ _ _ (by omega)).mono ?_); rintro e w' ⟨rfl, hb⟩; refine ⟨_, _, _, rfl, hs.grow hb, ?_⟩; clear hb hs w' s) | (refine o_c rfl rfl rfl en10 rfl (fun s hs => (bit_in _ _ _ (by omega) (by omega)).mono ?_); rintro e w' ⟨rfl, hb⟩; refine ⟨_, _, _, rfl, hs.grow hb, ?_⟩; clear hb hs w' s) | (refine o_c rfl rfl rfl en10 rfl (fun s hs => (bit_no _ _ _ (by omega)).mono ?_); rintro e w' ⟨rfl, hb⟩; refine ⟨_, _, _, rfl, hs.grow hb, ?_⟩; clear hb hs w' s)
       refine o_p rfl rfl ?_
       refine o_p rfl rfl ?_
       refine o_p rfl rfl ?_
       refine o_p rfl rfl ?_
       refine o_p rfl rfl ?_
       refine ow_nil ?_)
    | (refine cw_region (id := 12) ?_
       refine o_p rfl rfl ?_
       first | refine o_r rfl (r_cmp rfl rfl rfl (cmp_t (by omega))) ?_ | refine o_r rfl (r_cmp rfl rfl rfl (cmp_f (by omega))) ?_ | refine o_r rfl (r_cmp rfl rfl rfl rfl) ?_
       refine o_p rfl rfl ?_
       first | refine o_k rfl ?_ | refine o_p rfl rfl ?_
       first | refine o_k rfl ?_ | refine o_r rfl (r_cmp rfl rfl rfl (cmp_t (by omega))) ?_ | refine o_r rfl (r_cmp rfl rfl rfl (cmp_f (by omega))) ?_ | refine o_r rfl (r_cmp rfl rfl rfl rfl) ?_
       refine o_p rfl rfl ?_
       refine ow_nil ?_)
    | (refine cw_region (id := 13) ?_
       refine o_p rfl rfl ?_
       refine ow_nil ?_)
    | (refine cw_region (id := 14) ?_
       refine o_p rfl rfl ?_
       first | refine o_r rfl (rd_quo rfl rfl (by omega) (IntWalk.i64_quo _ _ (by omega))) ?_ | refine o_r rfl (rd_quo rfl rfl (by omega) rfl) ?_
       refine o_p rfl rfl ?_
       first | refine o_r rfl (rd_quo rfl rfl (by omega) (IntWalk.i64_quo _ _ (by omega))) ?_ | refine o_r rfl (rd_quo rfl rfl (by omega) rfl) ?_
       first | refine o_r rfl (rd_indexAddr_arr Try.underlying23 sz5 rfl rfl (by omega) (by omega) (by rw [Nat.zero_add, Nat.mul_one])) ?_ | refine o_r rfl (rd_indexAddr_arr Try.underlying23 sz5 rfl rfl (by omega) (by omega) (by rw [Nat.zero_add])) ?_ | refine o_r rfl (rd_indexAddr_arr Try.underlying23 sz5 rfl rfl (by omega) (by omega) rfl) ?_
       refine o_r rfl (rd_load rfl (by repeat (first | exact List.Mem.head _ | apply List.Mem.tail)) one5 (by first | rfl | assumption)) ?_
       first | refine o_r rfl (r_ar rfl rfl rfl (IntWalk.u8_in _ (by omega))) ?_ | refine o_r rfl (r_ar rfl rfl rfl rfl) ?_
       refine o_p rfl rfl ?_
       first | refine o_r rfl (r_ar rfl rfl rfl (IntWalk.u8_in _ (by omega))) ?_ | refine o_r rfl (r_ar rfl rfl rfl rfl) ?_
       first | refine o_r rfl (rd_indexAddr_arr Try.underlying23 sz5 rfl rfl (by omega) (by omega) (by rw [Nat.zero_add, Nat.mul_one])) ?_ | refine o_r rfl (rd_indexAddr_arr Try.underlying23 sz5 rfl rfl (by omega) (by omega) (by rw [Nat.zero_add])) ?_ | refine o_r rfl (rd_indexAddr_arr Try.underlying23 sz5 rfl rfl (by omega) (by omega) rfl) ?_
       refine o_w rfl (wr_store rfl rfl sz5 rfl (by repeat (first | exact Upd.here | apply Upd.there)) (by simp [Value.cells])) ?_
       refine ow_nil ?_)
    | (refine cw_region (id := 10) ?_
       refine o_p rfl rfl ?_
       first | refine o_r rfl (r_ar rfl rfl rfl (IntWalk.i64_in _ (by omega))) ?_ | refine o_r rfl (r_ar rfl rfl rfl rfl) ?_
       refine o_p rfl rfl ?_
       refine ow_nil ?_)
    | (refine cw_region (id := 15) ?_
       refine o_p rfl rfl ?_
       refine o_p rfl rfl ?_
       first | refine o_k rfl ?_ | refine o_p rfl rfl ?_
       first | refine o_k rfl ?_ | refine o_r rfl (r_cmp rfl rfl rfl (cmp_t (by omega))) ?_ | refine o_r rfl (r_cmp rfl rfl rfl (cmp_f (by omega))) ?_ | refine o_r rfl (r_cmp rfl rfl rfl rfl) ?_
       refine o_p rfl rfl ?_
       refine o_p rfl rfl ?_
       first | refine o_k rfl ?_ | refine o_r rfl (rd_load_all rfl (by repeat (first | exact List.Mem.head _ | apply List.Mem.tail)) agg23 (by simp)) ?_ | refine o_r rfl (rd_load_agg rfl (by repeat (first | exact List.Mem.head _ | apply List.Mem.tail)) agg23 (by simp [Value.cells]) (by first | rfl | simp [Value.cells])) ?_
       first | refine o_k rfl ?_ | refine o_r rfl (rd_load_all rfl (by repeat (first | exact List.Mem.head _ | apply List.Mem.tail)) agg23 (by simp)) ?_ | refine o_r rfl (rd_load_agg rfl (by repeat (first | exact List.Mem.head _ | apply List.Mem.tail)) agg23 (by simp [Value.cells]) (by first | rfl | simp [Value.cells])) ?_
       first | refine o_k rfl ?_ | refine o_r rfl (rd_eql_agg eg23 rfl rfl (fun w => eqlt23 (by first | rfl | assumption) w)) ?_ | refine o_r rfl (rd_eql_agg eg23 rfl rfl (fun w => eqlf23 (by assumption) w)) ?_ | refine o_r rfl (rd_eql_agg eg23 rfl rfl (fun w => eql23 _ _ w)) ?_
       refine o_p rfl rfl ?_
       refine o_p rfl rfl ?_
       first | refine o_k rfl ?_ | refine o_p rfl rfl ?_
       first | refine o_k rfl ?_ | refine o_r rfl (r_cmp rfl rfl rfl (cmp_t (by omega))) ?_ | refine o_r rfl (r_cmp rfl rfl rfl (cmp_f (by omega))) ?_ | refine o_r rfl (r_cmp rfl rfl rfl rfl) ?_
       refine o_p rfl rfl ?_
       refine o_p rfl rfl ?_
       first | refine o_k rfl ?_ | refine o_r rfl (rd_load_all rfl (by repeat (first | exact List.Mem.head _ | apply List.Mem.tail)) agg23 (by simp)) ?_ | refine o_r rfl (rd_load_agg rfl (by repeat (first | exact List.Mem.head _ | apply List.Mem.tail)) agg23 (by simp [Value.cells]) (by first | rfl | simp [Value.cells])) ?_
       first | refine o_k rfl ?_ | refine o_r rfl (rd_load_all rfl (by repeat (first | exact List.Mem.head _ | apply List.Mem.tail)) agg23 (by simp)) ?_ | refine o_r rfl (rd_load_agg rfl (by repeat (first | exact List.Mem.head _ | apply List.Mem.tail)) agg23 (by simp [Value.cells]) (by first | rfl | simp [Value.cells])) ?_
       first | refine o_k rfl ?_ | (refine o_c rfl rfl rfl en9 rfl (fun s hs => (shared_c _ _ _).mono ?_); rintro e w' ⟨rfl, hb⟩; refine ⟨_, _, _, rfl, hs.grow hb, ?_⟩; clear hb hs w' s)
       first | refine o_k rfl ?_ | refine o_p rfl rfl ?_
       first | refine o_k rfl ?_ | refine o_r rfl (r_cmp rfl rfl rfl (cmp_t (by omega))) ?_ | refine o_r rfl (r_cmp rfl rfl rfl (cmp_f (by omega))) ?_ | refine o_r rfl (r_cmp rfl rfl rfl rfl) ?_
       refine o_p rfl rfl ?_
       refine o_p rfl rfl ?_
       first | refine o_k rfl ?_ | refine o_r rfl (rd_load_all rfl (by repeat (first | exact List.Mem.head _ | apply List.Mem.tail)) agg23 (by simp)) ?_ | refine o_r rfl (rd_load_agg rfl (by repeat (first | exact List.Mem.head _ | apply List.Mem.tail)) agg23 (by simp [Value.cells]) (by first | rfl | simp [Value.cells])) ?_
       first | refine o_k rfl ?_ | refine o_r rfl (rd_load_all rfl (by repeat (first | exact List.Mem.head _ | apply List.Mem.tail)) agg23 (by simp)) ?_ | refine o_r rfl (rd_load_agg rfl (by repeat (first | exact List.Mem.head _ | apply List.Mem.tail)) agg23 (by simp [Value.cells]) (by first | rfl | simp [Value.cells])) ?_
       first | refine o_k rfl ?_ | (refine o_c rfl rfl rfl en8 rfl (fun s hs => (ahead_v _ (by assumption)).mono ?_); rintro e w' ⟨rfl, hb⟩; refine ⟨_, _, _, rfl, hs.grow hb, ?_⟩; clear hb hs w' s)
       first | refine o_k rfl ?_ | refine o_p rfl rfl ?_
       first | refine o_k rfl ?_ | refine o_r rfl (r_cmp rfl rfl rfl (cmp_t (by omega))) ?_ | refine o_r rfl (r_cmp rfl rfl rfl (cmp_f (by omega))) ?_ | refine o_r rfl (r_cmp rfl rfl rfl rfl) ?_
       first | refine o_k rfl ?_ | refine o_r rfl (rd_eql_bool Try.underlying4 rfl rfl rfl) ?_
       refine o_p rfl rfl ?_
       refine o_p rfl rfl ?_
       first | refine o_k rfl ?_ | refine o_r rfl (rd_load_all rfl (by repeat (first | exact List.Mem.head _ | apply List.Mem.tail)) agg23 (by simp)) ?_ | refine o_r rfl (rd_load_agg rfl (by repeat (first | exact List.Mem.head _ | apply List.Mem.tail)) agg23 (by simp [Value.cells]) (by first | rfl | simp [Value.cells])) ?_
       first | refine o_k rfl ?_ | refine o_r rfl (rd_load_all rfl (by repeat (first | exact List.Mem.head _ | apply List.Mem.tail)) agg23 (by simp)) ?_ | refine o_r rfl (rd_load_agg rfl (by repeat (first | exact List.Mem.head _ | apply List.Mem.tail)) agg23 (by simp [Value.cells]) (by first | rfl | simp [Value.cells])) ?_
       first | refine o_k rfl ?_ | refine o_r rfl (rd_eql_agg eg23 rfl rfl (fun w => eqlt23 (by first | rfl | assumption) w)) ?_ | refine o_r rfl (rd_eql_agg eg23 rfl rfl (fun w => eqlf23 (by assumption) w)) ?_ | refine o_r rfl (rd_eql_agg eg23 rfl rfl (fun w => eql23 _ _ w)) ?_
       refine o_p rfl rfl ?_
       refine o_p rfl rfl ?_
       refine ow_nil ?_))
  exact fin1 (.inl rfl) rfl (res_tmp rfl) (fun v hv => ⟨rfl, hv.below (by simp) (by simp only [keysOf, List.map_cons, List.map_nil, List.forall_mem_cons, List.not_mem_nil, false_imp_iff, implies_true, and_true] <;> omega)⟩)
theorem turns_in (k : Dig) (i : Int) (w : World) (h0 : 0 ≤ i) (h1 : i < 256) : Calls Try.prog 6 #[.agg (dv k), .int .i64 i] w fun e w' => e = .returned (.bool true) ∧ Below w.heap.size w w' := by
  have htt := turn_turn k i.toNat (by omega)
  have hst := shared_turn k i.toNat (by omega)
  have hat := ahead_turn k i.toNat (by omega)
  have hall := acc_all k
  refine enter Try.func6 rfl (Nat.le_of_ble_eq_true rfl) (kn0 w) (vs := [_, _]) (fr0 := [(0, _), (1, _)]) rfl (n := 103) rfl ?_
  repeat (first
    | refine cw_seq ?_
    | refine cw_block ?_
    | refine cw_skip ?_
    | refine cw_label ?_
    | refine cw_exit ?_
    | refine cw_ret ?_
    | refine qw_then ?_
    | refine qw_block_normal ?_
    | refine qw_block_exit ?_
    | refine qw_block_other rfl ?_
    | refine qw_block_ret ?_
    | refine qw_then_ret ?_
    | refine qw_then_exit ?_
    | refine cw_true rfl ?_
    | refine cw_false rfl ?_
    | refine cw_scope ?_
    | refine qw_scope_normal ?_
    | refine qw_scope_ret ?_
    | refine qw_scope_exit ?_
    | (refine cw_region (id := 0) ?_
       first | (refine o_a rfl (al_box_agg rfl) (fun b2 fb2 => ?_); try simp only [fresh_iff, keysOf, List.map_cons, List.map_nil, List.forall_mem_cons, List.not_mem_nil, false_imp_iff, implies_true, and_true] at fb2) | (refine o_a rfl (al_box rfl) (fun b2 fb2 => ?_); try simp only [fresh_iff, keysOf, List.map_cons, List.map_nil, List.forall_mem_cons, List.not_mem_nil, false_imp_iff, implies_true, and_true] at fb2)
       refine o_p rfl rfl ?_
       refine ow_nil ?_)
    | (refine cw_region (id := 1) ?_
       (refine o_c rfl rfl rfl en7 rfl (fun s hs => (alive_c _).mono ?_); rintro e w' ⟨rfl, hb⟩; refine ⟨_, _, _, rfl, hs.grow hb, ?_⟩; clear hb hs w' s)
       refine o_p rfl rfl ?_
       refine ow_nil ?_)
    | (refine cw_region (id := 2) ?_
       first | refine o_r rfl (rd_load_all rfl (by repeat (first | exact List.Mem.head _ | apply List.Mem.tail)) agg23 (by simp)) ?_ | refine o_r rfl (rd_load_agg rfl (by repeat (first | exact List.Mem.head _ | apply List.Mem.tail)) agg23 (by simp [Value.cells]) (by first | rfl | simp [Value.cells])) ?_
       refine o_p rfl rfl ?_
       first | (refine o_c rfl rfl rfl en11 rfl (fun s hs => (turn_in _ _ _ (by omega) (by omega)).mono ?_); rintro e w' ⟨rfl, hb⟩; refine ⟨_, _, _, rfl, hs.grow hb, ?_⟩; clear hb hs w' s) | (refine o_c rfl rfl rfl en11 rfl (fun s hs => (turn_no _ _ _ (by omega)).mono ?_); rintro e w' ⟨rfl, hb⟩; refine ⟨_, _, _, rfl, hs.grow hb, ?_⟩; clear hb hs w' s)
       refine o_p rfl rfl ?_
       refine o_p rfl rfl ?_
       refine o_p rfl rfl ?_
       first | (refine o_a rfl (al_alloc_agg zero23) (fun b6 fb6 => ?_); try simp only [fresh_iff, keysOf, List.map_cons, List.map_nil, List.forall_mem_cons, List.not_mem_nil, false_imp_iff, implies_true, and_true] at fb6) | (refine o_a rfl (al_alloc zero23) (fun b6 fb6 => ?_); try simp only [fresh_iff, keysOf, List.map_cons, List.map_nil, List.forall_mem_cons, List.not_mem_nil, false_imp_iff, implies_true, and_true] at fb6)
       first | refine o_w rfl (wr_store_all rfl rfl agg23 (by simp) (by simp) (by repeat (first | exact Upd.here | apply Upd.there)) (by simp)) ?_ | refine o_w rfl (wr_store_agg rfl rfl agg23 (by simp [Value.cells]) (by first | rfl | simp [Value.cells]) (by first | rfl | exact splice_all _ _ (by simp [Value.cells])) (by repeat (first | exact Upd.here | apply Upd.there)) (by simp [Value.cells])) ?_
       refine o_p rfl rfl ?_
       refine ow_nil ?_)
    | (refine cw_region (id := 3) ?_
       refine o_p rfl rfl ?_
       first | refine o_r rfl (r_cmp rfl rfl rfl (cmp_t (by omega))) ?_ | refine o_r rfl (r_cmp rfl rfl rfl (cmp_f (by omega))) ?_ | refine o_r rfl (r_cmp rfl rfl rfl rfl) ?_
       refine ow_nil ?_)
    | (refine cw_region (id := 4) ?_
       refine o_p rfl rfl ?_
       refine o_p rfl rfl ?_
       first | refine o_k rfl ?_ | refine o_r rfl (rd_load_all rfl (by repeat (first | exact List.Mem.head _ | apply List.Mem.tail)) agg23 (by simp)) ?_ | refine o_r rfl (rd_load_agg rfl (by repeat (first | exact List.Mem.head _ | apply List.Mem.tail)) agg23 (by simp [Value.cells]) (by first | rfl | simp [Value.cells])) ?_
       first | refine o_k rfl ?_ | refine o_r rfl (rd_build (by first | exact build23 | exact rfl)) ?_
       first | refine o_k rfl ?_ | refine o_r rfl (rd_eql_agg eg23 rfl rfl (fun w => eqlt23 (by first | rfl | assumption) w)) ?_ | refine o_r rfl (rd_eql_agg eg23 rfl rfl (fun w => eqlf23 (by assumption) w)) ?_ | refine o_r rfl (rd_eql_agg eg23 rfl rfl (fun w => eql23 _ _ w)) ?_
       refine o_p rfl rfl ?_
       refine o_p rfl rfl ?_
       refine ow_nil ?_)
    | (refine cw_region (id := 5) ?_
       first | refine o_r rfl (rd_load_all rfl (by repeat (first | exact List.Mem.head _ | apply List.Mem.tail)) agg23 (by simp)) ?_ | refine o_r rfl (rd_load_agg rfl (by repeat (first | exact List.Mem.head _ | apply List.Mem.tail)) agg23 (by simp [Value.cells]) (by first | rfl | simp [Value.cells])) ?_
       refine o_p rfl rfl ?_
       first | (refine o_c rfl rfl rfl en11 rfl (fun s hs => (turn_in _ _ _ (by omega) (by omega)).mono ?_); rintro e w' ⟨rfl, hb⟩; refine ⟨_, _, _, rfl, hs.grow hb, ?_⟩; clear hb hs w' s) | (refine o_c rfl rfl rfl en11 rfl (fun s hs => (turn_no _ _ _ (by omega)).mono ?_); rintro e w' ⟨rfl, hb⟩; refine ⟨_, _, _, rfl, hs.grow hb, ?_⟩; clear hb hs w' s)
       refine o_p rfl rfl ?_
       refine o_p rfl rfl ?_
       refine o_p rfl rfl ?_
       first | (refine o_a rfl (al_alloc_agg zero23) (fun b8 fb8 => ?_); try simp only [fresh_iff, keysOf, List.map_cons, List.map_nil, List.forall_mem_cons, List.not_mem_nil, false_imp_iff, implies_true, and_true] at fb8) | (refine o_a rfl (al_alloc zero23) (fun b8 fb8 => ?_); try simp only [fresh_iff, keysOf, List.map_cons, List.map_nil, List.forall_mem_cons, List.not_mem_nil, false_imp_iff, implies_true, and_true] at fb8)
       first | refine o_w rfl (wr_store_all rfl rfl agg23 (by simp) (by simp) (by repeat (first | exact Upd.here | apply Upd.there)) (by simp)) ?_ | refine o_w rfl (wr_store_agg rfl rfl agg23 (by simp [Value.cells]) (by first | rfl | simp [Value.cells]) (by first | rfl | exact splice_all _ _ (by simp [Value.cells])) (by repeat (first | exact Upd.here | apply Upd.there)) (by simp [Value.cells])) ?_
       refine o_p rfl rfl ?_
       refine ow_nil ?_)
    | (refine cw_region (id := 6) ?_
       first | refine o_r rfl (rd_load_all rfl (by repeat (first | exact List.Mem.head _ | apply List.Mem.tail)) agg23 (by simp)) ?_ | refine o_r rfl (rd_load_agg rfl (by repeat (first | exact List.Mem.head _ | apply List.Mem.tail)) agg23 (by simp [Value.cells]) (by first | rfl | simp [Value.cells])) ?_
       refine o_p rfl rfl ?_
       first | (refine o_c rfl rfl rfl en10 rfl (fun s hs => (bit_n _ _ _ (by omega)).mono ?_); rintro e w' ⟨rfl, hb⟩; refine ⟨_, _, _, rfl, hs.grow hb, ?_⟩; clear hb hs w' s) | (refine o_c rfl rfl rfl en10 rfl (fun s hs => (bit_in _ _ _ (by omega) (by omega)).mono ?_); rintro e w' ⟨rfl, hb⟩; refine ⟨_, _, _, rfl, hs.grow hb, ?_⟩; clear hb hs w' s) | (refine o_c rfl rfl rfl en10 rfl (fun s hs => (bit_no _ _ _ (by omega)).mono ?_); rintro e w' ⟨rfl, hb⟩; refine ⟨_, _, _, rfl, hs.grow hb, ?_⟩; clear hb hs w' s)
       refine o_p rfl rfl ?_
       refine o_p rfl rfl ?_
       refine o_p rfl rfl ?_
       refine o_p rfl rfl ?_
       refine o_p rfl rfl ?_
       refine ow_nil ?_)
    | (refine cw_region (id := 7) ?_
       first | (refine o_a rfl (al_alloc_agg zero23) (fun b12 fb12 => ?_); try simp only [fresh_iff, keysOf, List.map_cons, List.map_nil, List.forall_mem_cons, List.not_mem_nil, false_imp_iff, implies_true, and_true] at fb12) | (refine o_a rfl (al_alloc zero23) (fun b12 fb12 => ?_); try simp only [fresh_iff, keysOf, List.map_cons, List.map_nil, List.forall_mem_cons, List.not_mem_nil, false_imp_iff, implies_true, and_true] at fb12)
       refine ow_nil ?_)
    | (refine cw_region (id := 8) ?_
       refine o_p rfl rfl ?_
       refine ow_nil ?_))
  refine cw_loop (fun j : Nat => j ≤ 256) (fun j => [(13, .int .i64 (j : Int)), (1, .int .i64 i), (2, .pointer (some ⟨b2, 0, none⟩)), (5, .bool true), (6, .pointer (some ⟨b6, 0, none⟩)), (8, .pointer (some ⟨b8, 0, none⟩)), (9, .int .i64 0), (10, .int .u8 (bitN k i.toNat)), (11, .int .i64 0), (12, .pointer (some ⟨b12, 0, none⟩))])
    (fun j => [(b12, .cells (dv (accD k j)) 23 (0, 0)), (b8, .cells (dv (turnM (turnM k i.toNat) i.toNat)) 23 (0, 0)), (b6, .cells (dv (turnM k i.toNat)) 23 (0, 0)), (b2, .cells (dv k) 23 (0, 0))]) (fun _ => [w]) (fun j => 256 - j) 0 (by omega) (by repeat (first | exact trivial | refine ⟨rfl, ?_⟩)) (by rw [acc_zero]) rfl ?_
  intro j hj
  by_cases hj2 : j < 256
  · have hb := bitN_le k j
    have hh := acc_half k j
    have hg := dv_get (accD k j) (i := ((j : Int) / 8).toNat) (by omega)
    have hk : kn (accD k j) ((j : Int) / 8).toNat = accN k j (j / 8) := by rw [show ((j : Int) / 8).toNat = j / 8 by omega]; exact kn_acc k j _ (by omega)
    rw [hk] at hg
    have hn := acc_next k j hj2
    have hn' : setD (accD k j) ((j : Int) / 8).toNat (UInt8.ofNat (2 * ((accN k j (j / 8) : Nat) : Int) + ((bitN k j : Nat) : Int)).toNat) = accD k (j + 1) := by
      rw [← hn, show ((j : Int) / 8).toNat = j / 8 by omega]
      congr 2
    repeat (first
      | refine cw_seq ?_
      | refine cw_block ?_
      | refine cw_skip ?_
      | refine cw_label ?_
      | refine cw_exit ?_
      | refine cw_ret ?_
      | refine qw_then ?_
      | refine qw_block_normal ?_
      | refine qw_block_exit ?_
      | refine qw_block_other rfl ?_
      | refine qw_block_ret ?_
      | refine qw_then_ret ?_
      | refine qw_then_exit ?_
      | refine cw_true rfl ?_
      | refine cw_false rfl ?_
      | refine cw_scope ?_
      | refine qw_scope_normal ?_
      | refine qw_scope_ret ?_
      | refine qw_scope_exit ?_
      | (refine cw_region (id := 0) ?_
         first | (refine o_a rfl (al_box_agg rfl) (fun b2 fb2 => ?_); try simp only [fresh_iff, keysOf, List.map_cons, List.map_nil, List.forall_mem_cons, List.not_mem_nil, false_imp_iff, implies_true, and_true] at fb2) | (refine o_a rfl (al_box rfl) (fun b2 fb2 => ?_); try simp only [fresh_iff, keysOf, List.map_cons, List.map_nil, List.forall_mem_cons, List.not_mem_nil, false_imp_iff, implies_true, and_true] at fb2)
         refine o_p rfl rfl ?_
         refine ow_nil ?_)
      | (refine cw_region (id := 1) ?_
         (refine o_c rfl rfl rfl en7 rfl (fun s hs => (alive_c _).mono ?_); rintro e w' ⟨rfl, hb⟩; refine ⟨_, _, _, rfl, hs.grow hb, ?_⟩; clear hb hs w' s)
         refine o_p rfl rfl ?_
         refine ow_nil ?_)
      | (refine cw_region (id := 2) ?_
         first | refine o_r rfl (rd_load_all rfl (by repeat (first | exact List.Mem.head _ | apply List.Mem.tail)) agg23 (by simp)) ?_ | refine o_r rfl (rd_load_agg rfl (by repeat (first | exact List.Mem.head _ | apply List.Mem.tail)) agg23 (by simp [Value.cells]) (by first | rfl | simp [Value.cells])) ?_
         refine o_p rfl rfl ?_
         first | (refine o_c rfl rfl rfl en11 rfl (fun s hs => (turn_in _ _ _ (by omega) (by omega)).mono ?_); rintro e w' ⟨rfl, hb⟩; refine ⟨_, _, _, rfl, hs.grow hb, ?_⟩; clear hb hs w' s) | (refine o_c rfl rfl rfl en11 rfl (fun s hs => (turn_no _ _ _ (by omega)).mono ?_); rintro e w' ⟨rfl, hb⟩; refine ⟨_, _, _, rfl, hs.grow hb, ?_⟩; clear hb hs w' s)
         refine o_p rfl rfl ?_
         refine o_p rfl rfl ?_
         refine o_p rfl rfl ?_
         first | (refine o_a rfl (al_alloc_agg zero23) (fun b6 fb6 => ?_); try simp only [fresh_iff, keysOf, List.map_cons, List.map_nil, List.forall_mem_cons, List.not_mem_nil, false_imp_iff, implies_true, and_true] at fb6) | (refine o_a rfl (al_alloc zero23) (fun b6 fb6 => ?_); try simp only [fresh_iff, keysOf, List.map_cons, List.map_nil, List.forall_mem_cons, List.not_mem_nil, false_imp_iff, implies_true, and_true] at fb6)
         first | refine o_w rfl (wr_store_all rfl rfl agg23 (by simp) (by simp) (by repeat (first | exact Upd.here | apply Upd.there)) (by simp)) ?_ | refine o_w rfl (wr_store_agg rfl rfl agg23 (by simp [Value.cells]) (by first | rfl | simp [Value.cells]) (by first | rfl | exact splice_all _ _ (by simp [Value.cells])) (by repeat (first | exact Upd.here | apply Upd.there)) (by simp [Value.cells])) ?_
         refine o_p rfl rfl ?_
         refine ow_nil ?_)
      | (refine cw_region (id := 3) ?_
         refine o_p rfl rfl ?_
         first | refine o_r rfl (r_cmp rfl rfl rfl (cmp_t (by omega))) ?_ | refine o_r rfl (r_cmp rfl rfl rfl (cmp_f (by omega))) ?_ | refine o_r rfl (r_cmp rfl rfl rfl rfl) ?_
         refine ow_nil ?_)
      | (refine cw_region (id := 4) ?_
         refine o_p rfl rfl ?_
         refine o_p rfl rfl ?_
         first | refine o_k rfl ?_ | refine o_r rfl (rd_load_all rfl (by repeat (first | exact List.Mem.head _ | apply List.Mem.tail)) agg23 (by simp)) ?_ | refine o_r rfl (rd_load_agg rfl (by repeat (first | exact List.Mem.head _ | apply List.Mem.tail)) agg23 (by simp [Value.cells]) (by first | rfl | simp [Value.cells])) ?_
         first | refine o_k rfl ?_ | refine o_r rfl (rd_build (by first | exact build23 | exact rfl)) ?_
         first | refine o_k rfl ?_ | refine o_r rfl (rd_eql_agg eg23 rfl rfl (fun w => eqlt23 (by first | rfl | assumption) w)) ?_ | refine o_r rfl (rd_eql_agg eg23 rfl rfl (fun w => eqlf23 (by assumption) w)) ?_ | refine o_r rfl (rd_eql_agg eg23 rfl rfl (fun w => eql23 _ _ w)) ?_
         refine o_p rfl rfl ?_
         refine o_p rfl rfl ?_
         refine ow_nil ?_)
      | (refine cw_region (id := 5) ?_
         first | refine o_r rfl (rd_load_all rfl (by repeat (first | exact List.Mem.head _ | apply List.Mem.tail)) agg23 (by simp)) ?_ | refine o_r rfl (rd_load_agg rfl (by repeat (first | exact List.Mem.head _ | apply List.Mem.tail)) agg23 (by simp [Value.cells]) (by first | rfl | simp [Value.cells])) ?_
         refine o_p rfl rfl ?_
         first | (refine o_c rfl rfl rfl en11 rfl (fun s hs => (turn_in _ _ _ (by omega) (by omega)).mono ?_); rintro e w' ⟨rfl, hb⟩; refine ⟨_, _, _, rfl, hs.grow hb, ?_⟩; clear hb hs w' s) | (refine o_c rfl rfl rfl en11 rfl (fun s hs => (turn_no _ _ _ (by omega)).mono ?_); rintro e w' ⟨rfl, hb⟩; refine ⟨_, _, _, rfl, hs.grow hb, ?_⟩; clear hb hs w' s)
         refine o_p rfl rfl ?_
         refine o_p rfl rfl ?_
         refine o_p rfl rfl ?_
         first | (refine o_a rfl (al_alloc_agg zero23) (fun b8 fb8 => ?_); try simp only [fresh_iff, keysOf, List.map_cons, List.map_nil, List.forall_mem_cons, List.not_mem_nil, false_imp_iff, implies_true, and_true] at fb8) | (refine o_a rfl (al_alloc zero23) (fun b8 fb8 => ?_); try simp only [fresh_iff, keysOf, List.map_cons, List.map_nil, List.forall_mem_cons, List.not_mem_nil, false_imp_iff, implies_true, and_true] at fb8)
         first | refine o_w rfl (wr_store_all rfl rfl agg23 (by simp) (by simp) (by repeat (first | exact Upd.here | apply Upd.there)) (by simp)) ?_ | refine o_w rfl (wr_store_agg rfl rfl agg23 (by simp [Value.cells]) (by first | rfl | simp [Value.cells]) (by first | rfl | exact splice_all _ _ (by simp [Value.cells])) (by repeat (first | exact Upd.here | apply Upd.there)) (by simp [Value.cells])) ?_
         refine o_p rfl rfl ?_
         refine ow_nil ?_)
      | (refine cw_region (id := 6) ?_
         first | refine o_r rfl (rd_load_all rfl (by repeat (first | exact List.Mem.head _ | apply List.Mem.tail)) agg23 (by simp)) ?_ | refine o_r rfl (rd_load_agg rfl (by repeat (first | exact List.Mem.head _ | apply List.Mem.tail)) agg23 (by simp [Value.cells]) (by first | rfl | simp [Value.cells])) ?_
         refine o_p rfl rfl ?_
         first | (refine o_c rfl rfl rfl en10 rfl (fun s hs => (bit_n _ _ _ (by omega)).mono ?_); rintro e w' ⟨rfl, hb⟩; refine ⟨_, _, _, rfl, hs.grow hb, ?_⟩; clear hb hs w' s) | (refine o_c rfl rfl rfl en10 rfl (fun s hs => (bit_in _ _ _ (by omega) (by omega)).mono ?_); rintro e w' ⟨rfl, hb⟩; refine ⟨_, _, _, rfl, hs.grow hb, ?_⟩; clear hb hs w' s) | (refine o_c rfl rfl rfl en10 rfl (fun s hs => (bit_no _ _ _ (by omega)).mono ?_); rintro e w' ⟨rfl, hb⟩; refine ⟨_, _, _, rfl, hs.grow hb, ?_⟩; clear hb hs w' s)
         refine o_p rfl rfl ?_
         refine o_p rfl rfl ?_
         refine o_p rfl rfl ?_
         refine o_p rfl rfl ?_
         refine o_p rfl rfl ?_
         refine ow_nil ?_)
      | (refine cw_region (id := 7) ?_
         first | (refine o_a rfl (al_alloc_agg zero23) (fun b12 fb12 => ?_); try simp only [fresh_iff, keysOf, List.map_cons, List.map_nil, List.forall_mem_cons, List.not_mem_nil, false_imp_iff, implies_true, and_true] at fb12) | (refine o_a rfl (al_alloc zero23) (fun b12 fb12 => ?_); try simp only [fresh_iff, keysOf, List.map_cons, List.map_nil, List.forall_mem_cons, List.not_mem_nil, false_imp_iff, implies_true, and_true] at fb12)
         refine ow_nil ?_)
      | (refine cw_region (id := 8) ?_
         refine o_p rfl rfl ?_
         refine ow_nil ?_)
      | (refine cw_region (id := 9) ?_
         refine o_p rfl rfl ?_
         first | refine o_r rfl (r_cmp rfl rfl rfl (cmp_t (by omega))) ?_ | refine o_r rfl (r_cmp rfl rfl rfl (cmp_f (by omega))) ?_ | refine o_r rfl (r_cmp rfl rfl rfl rfl) ?_
         refine ow_nil ?_)
      | (refine cw_region (id := 11) ?_
         first | refine o_r rfl (rd_load_all rfl (by repeat (first | exact List.Mem.head _ | apply List.Mem.tail)) agg23 (by simp)) ?_ | refine o_r rfl (rd_load_agg rfl (by repeat (first | exact List.Mem.head _ | apply List.Mem.tail)) agg23 (by simp [Value.cells]) (by first | rfl | simp [Value.cells])) ?_
         refine o_p rfl rfl ?_
         first | (refine o_c rfl rfl rfl en10 rfl (fun s hs => (bit_n _ _ _ (by omega)).mono ?_); rintro e w' ⟨rfl, hb⟩; refine ⟨_, _, _, rfl, hs.grow hb, ?_⟩; clear hb hs w' s) | (refine o_c rfl rfl rfl en10 rfl (fun s hs => (bit_in _ _ _ (by omega) (by omega)).mono ?_); rintro e w' ⟨rfl, hb⟩; refine ⟨_, _, _, rfl, hs.grow hb, ?_⟩; clear hb hs w' s) | (refine o_c rfl rfl rfl en10 rfl (fun s hs => (bit_no _ _ _ (by omega)).mono ?_); rintro e w' ⟨rfl, hb⟩; refine ⟨_, _, _, rfl, hs.grow hb, ?_⟩; clear hb hs w' s)
         refine o_p rfl rfl ?_
         refine o_p rfl rfl ?_
         refine o_p rfl rfl ?_
         refine o_p rfl rfl ?_
         refine o_p rfl rfl ?_
         refine ow_nil ?_)
      | (refine cw_region (id := 12) ?_
         refine o_p rfl rfl ?_
         first | refine o_r rfl (r_cmp rfl rfl rfl (cmp_t (by omega))) ?_ | refine o_r rfl (r_cmp rfl rfl rfl (cmp_f (by omega))) ?_ | refine o_r rfl (r_cmp rfl rfl rfl rfl) ?_
         refine o_p rfl rfl ?_
         first | refine o_k rfl ?_ | refine o_p rfl rfl ?_
         first | refine o_k rfl ?_ | refine o_r rfl (r_cmp rfl rfl rfl (cmp_t (by omega))) ?_ | refine o_r rfl (r_cmp rfl rfl rfl (cmp_f (by omega))) ?_ | refine o_r rfl (r_cmp rfl rfl rfl rfl) ?_
         refine o_p rfl rfl ?_
         refine ow_nil ?_)
      | (refine cw_region (id := 13) ?_
         refine o_p rfl rfl ?_
         refine ow_nil ?_)
      | (refine cw_region (id := 14) ?_
         refine o_p rfl rfl ?_
         first | refine o_r rfl (rd_quo rfl rfl (by omega) (IntWalk.i64_quo _ _ (by omega))) ?_ | refine o_r rfl (rd_quo rfl rfl (by omega) rfl) ?_
         refine o_p rfl rfl ?_
         first | refine o_r rfl (rd_quo rfl rfl (by omega) (IntWalk.i64_quo _ _ (by omega))) ?_ | refine o_r rfl (rd_quo rfl rfl (by omega) rfl) ?_
         first | refine o_r rfl (rd_indexAddr_arr Try.underlying23 sz5 rfl rfl (by omega) (by omega) (by rw [Nat.zero_add, Nat.mul_one])) ?_ | refine o_r rfl (rd_indexAddr_arr Try.underlying23 sz5 rfl rfl (by omega) (by omega) (by rw [Nat.zero_add])) ?_ | refine o_r rfl (rd_indexAddr_arr Try.underlying23 sz5 rfl rfl (by omega) (by omega) rfl) ?_
         refine o_r rfl (rd_load rfl (by repeat (first | exact List.Mem.head _ | apply List.Mem.tail)) one5 (by first | rfl | assumption)) ?_
         first | refine o_r rfl (r_ar rfl rfl rfl (IntWalk.u8_in _ (by omega))) ?_ | refine o_r rfl (r_ar rfl rfl rfl rfl) ?_
         refine o_p rfl rfl ?_
         first | refine o_r rfl (r_ar rfl rfl rfl (IntWalk.u8_in _ (by omega))) ?_ | refine o_r rfl (r_ar rfl rfl rfl rfl) ?_
         first | refine o_r rfl (rd_indexAddr_arr Try.underlying23 sz5 rfl rfl (by omega) (by omega) (by rw [Nat.zero_add, Nat.mul_one])) ?_ | refine o_r rfl (rd_indexAddr_arr Try.underlying23 sz5 rfl rfl (by omega) (by omega) (by rw [Nat.zero_add])) ?_ | refine o_r rfl (rd_indexAddr_arr Try.underlying23 sz5 rfl rfl (by omega) (by omega) rfl) ?_
         refine o_w rfl (wr_store_dig rfl rfl sz5 (by omega) (by omega) (by repeat (first | exact Upd.here | apply Upd.there)) (by omega)) ?_
         refine ow_nil ?_)
      | (refine cw_region (id := 10) ?_
         refine o_p rfl rfl ?_
         first | refine o_r rfl (r_ar rfl rfl rfl (IntWalk.i64_in _ (by omega))) ?_ | refine o_r rfl (r_ar rfl rfl rfl rfl) ?_
         refine o_p rfl rfl ?_
         refine ow_nil ?_))
    rw [hn']
    exact qw_again (j + 1) (by omega) (by repeat (first | exact trivial | refine ⟨rfl, ?_⟩)) (by omega) (fun _ h => h)
  · have : j = 256 := by omega
    subst this
    rcases Classical.em (bitN k i.toNat = 0) with hb | hb
    · rw [decide_eq_true hb] at hat
      repeat (first
        | refine cw_seq ?_
        | refine cw_block ?_
        | refine cw_skip ?_
        | refine cw_label ?_
        | refine cw_exit ?_
        | refine cw_ret ?_
        | refine qw_then ?_
        | refine qw_block_normal ?_
        | refine qw_block_exit ?_
        | refine qw_block_other rfl ?_
        | refine qw_block_ret ?_
        | refine qw_then_ret ?_
        | refine qw_then_exit ?_
        | refine cw_true rfl ?_
        | refine cw_false rfl ?_
        | refine cw_scope ?_
        | refine qw_scope_normal ?_
        | refine qw_scope_ret ?_
        | refine qw_scope_exit ?_
        | (refine cw_region (id := 0) ?_
           first | (refine o_a rfl (al_box_agg rfl) (fun b2 fb2 => ?_); try simp only [fresh_iff, keysOf, List.map_cons, List.map_nil, List.forall_mem_cons, List.not_mem_nil, false_imp_iff, implies_true, and_true] at fb2) | (refine o_a rfl (al_box rfl) (fun b2 fb2 => ?_); try simp only [fresh_iff, keysOf, List.map_cons, List.map_nil, List.forall_mem_cons, List.not_mem_nil, false_imp_iff, implies_true, and_true] at fb2)
           refine o_p rfl rfl ?_
           refine ow_nil ?_)
        | (refine cw_region (id := 1) ?_
           (refine o_c rfl rfl rfl en7 rfl (fun s hs => (alive_c _).mono ?_); rintro e w' ⟨rfl, hb⟩; refine ⟨_, _, _, rfl, hs.grow hb, ?_⟩; clear hb hs w' s)
           refine o_p rfl rfl ?_
           refine ow_nil ?_)
        | (refine cw_region (id := 2) ?_
           first | refine o_r rfl (rd_load_all rfl (by repeat (first | exact List.Mem.head _ | apply List.Mem.tail)) agg23 (by simp)) ?_ | refine o_r rfl (rd_load_agg rfl (by repeat (first | exact List.Mem.head _ | apply List.Mem.tail)) agg23 (by simp [Value.cells]) (by first | rfl | simp [Value.cells])) ?_
           refine o_p rfl rfl ?_
           first | (refine o_c rfl rfl rfl en11 rfl (fun s hs => (turn_in _ _ _ (by omega) (by omega)).mono ?_); rintro e w' ⟨rfl, hb⟩; refine ⟨_, _, _, rfl, hs.grow hb, ?_⟩; clear hb hs w' s) | (refine o_c rfl rfl rfl en11 rfl (fun s hs => (turn_no _ _ _ (by omega)).mono ?_); rintro e w' ⟨rfl, hb⟩; refine ⟨_, _, _, rfl, hs.grow hb, ?_⟩; clear hb hs w' s)
           refine o_p rfl rfl ?_
           refine o_p rfl rfl ?_
           refine o_p rfl rfl ?_
           first | (refine o_a rfl (al_alloc_agg zero23) (fun b6 fb6 => ?_); try simp only [fresh_iff, keysOf, List.map_cons, List.map_nil, List.forall_mem_cons, List.not_mem_nil, false_imp_iff, implies_true, and_true] at fb6) | (refine o_a rfl (al_alloc zero23) (fun b6 fb6 => ?_); try simp only [fresh_iff, keysOf, List.map_cons, List.map_nil, List.forall_mem_cons, List.not_mem_nil, false_imp_iff, implies_true, and_true] at fb6)
           first | refine o_w rfl (wr_store_all rfl rfl agg23 (by simp) (by simp) (by repeat (first | exact Upd.here | apply Upd.there)) (by simp)) ?_ | refine o_w rfl (wr_store_agg rfl rfl agg23 (by simp [Value.cells]) (by first | rfl | simp [Value.cells]) (by first | rfl | exact splice_all _ _ (by simp [Value.cells])) (by repeat (first | exact Upd.here | apply Upd.there)) (by simp [Value.cells])) ?_
           refine o_p rfl rfl ?_
           refine ow_nil ?_)
        | (refine cw_region (id := 3) ?_
           refine o_p rfl rfl ?_
           first | refine o_r rfl (r_cmp rfl rfl rfl (cmp_t (by omega))) ?_ | refine o_r rfl (r_cmp rfl rfl rfl (cmp_f (by omega))) ?_ | refine o_r rfl (r_cmp rfl rfl rfl rfl) ?_
           refine ow_nil ?_)
        | (refine cw_region (id := 4) ?_
           refine o_p rfl rfl ?_
           refine o_p rfl rfl ?_
           first | refine o_k rfl ?_ | refine o_r rfl (rd_load_all rfl (by repeat (first | exact List.Mem.head _ | apply List.Mem.tail)) agg23 (by simp)) ?_ | refine o_r rfl (rd_load_agg rfl (by repeat (first | exact List.Mem.head _ | apply List.Mem.tail)) agg23 (by simp [Value.cells]) (by first | rfl | simp [Value.cells])) ?_
           first | refine o_k rfl ?_ | refine o_r rfl (rd_build (by first | exact build23 | exact rfl)) ?_
           first | refine o_k rfl ?_ | refine o_r rfl (rd_eql_agg eg23 rfl rfl (fun w => eqlt23 (by first | rfl | assumption) w)) ?_ | refine o_r rfl (rd_eql_agg eg23 rfl rfl (fun w => eqlf23 (by assumption) w)) ?_ | refine o_r rfl (rd_eql_agg eg23 rfl rfl (fun w => eql23 _ _ w)) ?_
           refine o_p rfl rfl ?_
           refine o_p rfl rfl ?_
           refine ow_nil ?_)
        | (refine cw_region (id := 5) ?_
           first | refine o_r rfl (rd_load_all rfl (by repeat (first | exact List.Mem.head _ | apply List.Mem.tail)) agg23 (by simp)) ?_ | refine o_r rfl (rd_load_agg rfl (by repeat (first | exact List.Mem.head _ | apply List.Mem.tail)) agg23 (by simp [Value.cells]) (by first | rfl | simp [Value.cells])) ?_
           refine o_p rfl rfl ?_
           first | (refine o_c rfl rfl rfl en11 rfl (fun s hs => (turn_in _ _ _ (by omega) (by omega)).mono ?_); rintro e w' ⟨rfl, hb⟩; refine ⟨_, _, _, rfl, hs.grow hb, ?_⟩; clear hb hs w' s) | (refine o_c rfl rfl rfl en11 rfl (fun s hs => (turn_no _ _ _ (by omega)).mono ?_); rintro e w' ⟨rfl, hb⟩; refine ⟨_, _, _, rfl, hs.grow hb, ?_⟩; clear hb hs w' s)
           refine o_p rfl rfl ?_
           refine o_p rfl rfl ?_
           refine o_p rfl rfl ?_
           first | (refine o_a rfl (al_alloc_agg zero23) (fun b8 fb8 => ?_); try simp only [fresh_iff, keysOf, List.map_cons, List.map_nil, List.forall_mem_cons, List.not_mem_nil, false_imp_iff, implies_true, and_true] at fb8) | (refine o_a rfl (al_alloc zero23) (fun b8 fb8 => ?_); try simp only [fresh_iff, keysOf, List.map_cons, List.map_nil, List.forall_mem_cons, List.not_mem_nil, false_imp_iff, implies_true, and_true] at fb8)
           first | refine o_w rfl (wr_store_all rfl rfl agg23 (by simp) (by simp) (by repeat (first | exact Upd.here | apply Upd.there)) (by simp)) ?_ | refine o_w rfl (wr_store_agg rfl rfl agg23 (by simp [Value.cells]) (by first | rfl | simp [Value.cells]) (by first | rfl | exact splice_all _ _ (by simp [Value.cells])) (by repeat (first | exact Upd.here | apply Upd.there)) (by simp [Value.cells])) ?_
           refine o_p rfl rfl ?_
           refine ow_nil ?_)
        | (refine cw_region (id := 6) ?_
           first | refine o_r rfl (rd_load_all rfl (by repeat (first | exact List.Mem.head _ | apply List.Mem.tail)) agg23 (by simp)) ?_ | refine o_r rfl (rd_load_agg rfl (by repeat (first | exact List.Mem.head _ | apply List.Mem.tail)) agg23 (by simp [Value.cells]) (by first | rfl | simp [Value.cells])) ?_
           refine o_p rfl rfl ?_
           first | (refine o_c rfl rfl rfl en10 rfl (fun s hs => (bit_n _ _ _ (by omega)).mono ?_); rintro e w' ⟨rfl, hb⟩; refine ⟨_, _, _, rfl, hs.grow hb, ?_⟩; clear hb hs w' s) | (refine o_c rfl rfl rfl en10 rfl (fun s hs => (bit_in _ _ _ (by omega) (by omega)).mono ?_); rintro e w' ⟨rfl, hb⟩; refine ⟨_, _, _, rfl, hs.grow hb, ?_⟩; clear hb hs w' s) | (refine o_c rfl rfl rfl en10 rfl (fun s hs => (bit_no _ _ _ (by omega)).mono ?_); rintro e w' ⟨rfl, hb⟩; refine ⟨_, _, _, rfl, hs.grow hb, ?_⟩; clear hb hs w' s)
           refine o_p rfl rfl ?_
           refine o_p rfl rfl ?_
           refine o_p rfl rfl ?_
           refine o_p rfl rfl ?_
           refine o_p rfl rfl ?_
           refine ow_nil ?_)
        | (refine cw_region (id := 7) ?_
           first | (refine o_a rfl (al_alloc_agg zero23) (fun b12 fb12 => ?_); try simp only [fresh_iff, keysOf, List.map_cons, List.map_nil, List.forall_mem_cons, List.not_mem_nil, false_imp_iff, implies_true, and_true] at fb12) | (refine o_a rfl (al_alloc zero23) (fun b12 fb12 => ?_); try simp only [fresh_iff, keysOf, List.map_cons, List.map_nil, List.forall_mem_cons, List.not_mem_nil, false_imp_iff, implies_true, and_true] at fb12)
           refine ow_nil ?_)
        | (refine cw_region (id := 8) ?_
           refine o_p rfl rfl ?_
           refine ow_nil ?_)
        | (refine cw_region (id := 9) ?_
           refine o_p rfl rfl ?_
           first | refine o_r rfl (r_cmp rfl rfl rfl (cmp_t (by omega))) ?_ | refine o_r rfl (r_cmp rfl rfl rfl (cmp_f (by omega))) ?_ | refine o_r rfl (r_cmp rfl rfl rfl rfl) ?_
           refine ow_nil ?_)
        | (refine cw_region (id := 11) ?_
           first | refine o_r rfl (rd_load_all rfl (by repeat (first | exact List.Mem.head _ | apply List.Mem.tail)) agg23 (by simp)) ?_ | refine o_r rfl (rd_load_agg rfl (by repeat (first | exact List.Mem.head _ | apply List.Mem.tail)) agg23 (by simp [Value.cells]) (by first | rfl | simp [Value.cells])) ?_
           refine o_p rfl rfl ?_
           first | (refine o_c rfl rfl rfl en10 rfl (fun s hs => (bit_n _ _ _ (by omega)).mono ?_); rintro e w' ⟨rfl, hb⟩; refine ⟨_, _, _, rfl, hs.grow hb, ?_⟩; clear hb hs w' s) | (refine o_c rfl rfl rfl en10 rfl (fun s hs => (bit_in _ _ _ (by omega) (by omega)).mono ?_); rintro e w' ⟨rfl, hb⟩; refine ⟨_, _, _, rfl, hs.grow hb, ?_⟩; clear hb hs w' s) | (refine o_c rfl rfl rfl en10 rfl (fun s hs => (bit_no _ _ _ (by omega)).mono ?_); rintro e w' ⟨rfl, hb⟩; refine ⟨_, _, _, rfl, hs.grow hb, ?_⟩; clear hb hs w' s)
           refine o_p rfl rfl ?_
           refine o_p rfl rfl ?_
           refine o_p rfl rfl ?_
           refine o_p rfl rfl ?_
           refine o_p rfl rfl ?_
           refine ow_nil ?_)
        | (refine cw_region (id := 12) ?_
           refine o_p rfl rfl ?_
           first | refine o_r rfl (r_cmp rfl rfl rfl (cmp_t (by omega))) ?_ | refine o_r rfl (r_cmp rfl rfl rfl (cmp_f (by omega))) ?_ | refine o_r rfl (r_cmp rfl rfl rfl rfl) ?_
           refine o_p rfl rfl ?_
           first | refine o_k rfl ?_ | refine o_p rfl rfl ?_
           first | refine o_k rfl ?_ | refine o_r rfl (r_cmp rfl rfl rfl (cmp_t (by omega))) ?_ | refine o_r rfl (r_cmp rfl rfl rfl (cmp_f (by omega))) ?_ | refine o_r rfl (r_cmp rfl rfl rfl rfl) ?_
           refine o_p rfl rfl ?_
           refine ow_nil ?_)
        | (refine cw_region (id := 13) ?_
           refine o_p rfl rfl ?_
           refine ow_nil ?_)
        | (refine cw_region (id := 14) ?_
           refine o_p rfl rfl ?_
           first | refine o_r rfl (rd_quo rfl rfl (by omega) (IntWalk.i64_quo _ _ (by omega))) ?_ | refine o_r rfl (rd_quo rfl rfl (by omega) rfl) ?_
           refine o_p rfl rfl ?_
           first | refine o_r rfl (rd_quo rfl rfl (by omega) (IntWalk.i64_quo _ _ (by omega))) ?_ | refine o_r rfl (rd_quo rfl rfl (by omega) rfl) ?_
           first | refine o_r rfl (rd_indexAddr_arr Try.underlying23 sz5 rfl rfl (by omega) (by omega) (by rw [Nat.zero_add, Nat.mul_one])) ?_ | refine o_r rfl (rd_indexAddr_arr Try.underlying23 sz5 rfl rfl (by omega) (by omega) (by rw [Nat.zero_add])) ?_ | refine o_r rfl (rd_indexAddr_arr Try.underlying23 sz5 rfl rfl (by omega) (by omega) rfl) ?_
           refine o_r rfl (rd_load rfl (by repeat (first | exact List.Mem.head _ | apply List.Mem.tail)) one5 (by first | rfl | assumption)) ?_
           first | refine o_r rfl (r_ar rfl rfl rfl (IntWalk.u8_in _ (by omega))) ?_ | refine o_r rfl (r_ar rfl rfl rfl rfl) ?_
           refine o_p rfl rfl ?_
           first | refine o_r rfl (r_ar rfl rfl rfl (IntWalk.u8_in _ (by omega))) ?_ | refine o_r rfl (r_ar rfl rfl rfl rfl) ?_
           first | refine o_r rfl (rd_indexAddr_arr Try.underlying23 sz5 rfl rfl (by omega) (by omega) (by rw [Nat.zero_add, Nat.mul_one])) ?_ | refine o_r rfl (rd_indexAddr_arr Try.underlying23 sz5 rfl rfl (by omega) (by omega) (by rw [Nat.zero_add])) ?_ | refine o_r rfl (rd_indexAddr_arr Try.underlying23 sz5 rfl rfl (by omega) (by omega) rfl) ?_
           refine o_w rfl (wr_store rfl rfl sz5 rfl (by repeat (first | exact Upd.here | apply Upd.there)) (by simp [Value.cells])) ?_
           refine ow_nil ?_)
        | (refine cw_region (id := 10) ?_
           refine o_p rfl rfl ?_
           first | refine o_r rfl (r_ar rfl rfl rfl (IntWalk.i64_in _ (by omega))) ?_ | refine o_r rfl (r_ar rfl rfl rfl rfl) ?_
           refine o_p rfl rfl ?_
           refine ow_nil ?_)
        | (refine cw_region (id := 15) ?_
           refine o_p rfl rfl ?_
           refine o_p rfl rfl ?_
           first | refine o_k rfl ?_ | refine o_p rfl rfl ?_
           first | refine o_k rfl ?_ | refine o_r rfl (r_cmp rfl rfl rfl (cmp_t (by omega))) ?_ | refine o_r rfl (r_cmp rfl rfl rfl (cmp_f (by omega))) ?_ | refine o_r rfl (r_cmp rfl rfl rfl rfl) ?_
           refine o_p rfl rfl ?_
           refine o_p rfl rfl ?_
           first | refine o_k rfl ?_ | refine o_r rfl (rd_load_all rfl (by repeat (first | exact List.Mem.head _ | apply List.Mem.tail)) agg23 (by simp)) ?_ | refine o_r rfl (rd_load_agg rfl (by repeat (first | exact List.Mem.head _ | apply List.Mem.tail)) agg23 (by simp [Value.cells]) (by first | rfl | simp [Value.cells])) ?_
           first | refine o_k rfl ?_ | refine o_r rfl (rd_load_all rfl (by repeat (first | exact List.Mem.head _ | apply List.Mem.tail)) agg23 (by simp)) ?_ | refine o_r rfl (rd_load_agg rfl (by repeat (first | exact List.Mem.head _ | apply List.Mem.tail)) agg23 (by simp [Value.cells]) (by first | rfl | simp [Value.cells])) ?_
           first | refine o_k rfl ?_ | refine o_r rfl (rd_eql_agg eg23 rfl rfl (fun w => eqlt23 (by first | rfl | assumption) w)) ?_ | refine o_r rfl (rd_eql_agg eg23 rfl rfl (fun w => eqlf23 (by assumption) w)) ?_ | refine o_r rfl (rd_eql_agg eg23 rfl rfl (fun w => eql23 _ _ w)) ?_
           refine o_p rfl rfl ?_
           refine o_p rfl rfl ?_
           first | refine o_k rfl ?_ | refine o_p rfl rfl ?_
           first | refine o_k rfl ?_ | refine o_r rfl (r_cmp rfl rfl rfl (cmp_t (by omega))) ?_ | refine o_r rfl (r_cmp rfl rfl rfl (cmp_f (by omega))) ?_ | refine o_r rfl (r_cmp rfl rfl rfl rfl) ?_
           refine o_p rfl rfl ?_
           refine o_p rfl rfl ?_
           first | refine o_k rfl ?_ | refine o_r rfl (rd_load_all rfl (by repeat (first | exact List.Mem.head _ | apply List.Mem.tail)) agg23 (by simp)) ?_ | refine o_r rfl (rd_load_agg rfl (by repeat (first | exact List.Mem.head _ | apply List.Mem.tail)) agg23 (by simp [Value.cells]) (by first | rfl | simp [Value.cells])) ?_
           first | refine o_k rfl ?_ | refine o_r rfl (rd_load_all rfl (by repeat (first | exact List.Mem.head _ | apply List.Mem.tail)) agg23 (by simp)) ?_ | refine o_r rfl (rd_load_agg rfl (by repeat (first | exact List.Mem.head _ | apply List.Mem.tail)) agg23 (by simp [Value.cells]) (by first | rfl | simp [Value.cells])) ?_
           first | refine o_k rfl ?_ | (refine o_c rfl rfl rfl en9 rfl (fun s hs => (shared_c _ _ _).mono ?_); rintro e w' ⟨rfl, hb⟩; refine ⟨_, _, _, rfl, hs.grow hb, ?_⟩; clear hb hs w' s)
           first | refine o_k rfl ?_ | refine o_p rfl rfl ?_
           first | refine o_k rfl ?_ | refine o_r rfl (r_cmp rfl rfl rfl (cmp_t (by omega))) ?_ | refine o_r rfl (r_cmp rfl rfl rfl (cmp_f (by omega))) ?_ | refine o_r rfl (r_cmp rfl rfl rfl rfl) ?_
           refine o_p rfl rfl ?_
           refine o_p rfl rfl ?_
           first | refine o_k rfl ?_ | refine o_r rfl (rd_load_all rfl (by repeat (first | exact List.Mem.head _ | apply List.Mem.tail)) agg23 (by simp)) ?_ | refine o_r rfl (rd_load_agg rfl (by repeat (first | exact List.Mem.head _ | apply List.Mem.tail)) agg23 (by simp [Value.cells]) (by first | rfl | simp [Value.cells])) ?_
           first | refine o_k rfl ?_ | refine o_r rfl (rd_load_all rfl (by repeat (first | exact List.Mem.head _ | apply List.Mem.tail)) agg23 (by simp)) ?_ | refine o_r rfl (rd_load_agg rfl (by repeat (first | exact List.Mem.head _ | apply List.Mem.tail)) agg23 (by simp [Value.cells]) (by first | rfl | simp [Value.cells])) ?_
           first | refine o_k rfl ?_ | (refine o_c rfl rfl rfl en8 rfl (fun s hs => (ahead_v _ (by assumption)).mono ?_); rintro e w' ⟨rfl, hb⟩; refine ⟨_, _, _, rfl, hs.grow hb, ?_⟩; clear hb hs w' s)
           first | refine o_k rfl ?_ | refine o_p rfl rfl ?_
           first | refine o_k rfl ?_ | refine o_r rfl (r_cmp rfl rfl rfl (cmp_t (by omega))) ?_ | refine o_r rfl (r_cmp rfl rfl rfl (cmp_f (by omega))) ?_ | refine o_r rfl (r_cmp rfl rfl rfl rfl) ?_
           first | refine o_k rfl ?_ | refine o_r rfl (rd_eql_bool Try.underlying4 rfl rfl rfl) ?_
           refine o_p rfl rfl ?_
           refine o_p rfl rfl ?_
           first | refine o_k rfl ?_ | refine o_r rfl (rd_load_all rfl (by repeat (first | exact List.Mem.head _ | apply List.Mem.tail)) agg23 (by simp)) ?_ | refine o_r rfl (rd_load_agg rfl (by repeat (first | exact List.Mem.head _ | apply List.Mem.tail)) agg23 (by simp [Value.cells]) (by first | rfl | simp [Value.cells])) ?_
           first | refine o_k rfl ?_ | refine o_r rfl (rd_load_all rfl (by repeat (first | exact List.Mem.head _ | apply List.Mem.tail)) agg23 (by simp)) ?_ | refine o_r rfl (rd_load_agg rfl (by repeat (first | exact List.Mem.head _ | apply List.Mem.tail)) agg23 (by simp [Value.cells]) (by first | rfl | simp [Value.cells])) ?_
           first | refine o_k rfl ?_ | refine o_r rfl (rd_eql_agg eg23 rfl rfl (fun w => eqlt23 (by first | rfl | assumption) w)) ?_ | refine o_r rfl (rd_eql_agg eg23 rfl rfl (fun w => eqlf23 (by assumption) w)) ?_ | refine o_r rfl (rd_eql_agg eg23 rfl rfl (fun w => eql23 _ _ w)) ?_
           refine o_p rfl rfl ?_
           refine o_p rfl rfl ?_
           refine ow_nil ?_))
      exact fin1 (.inl rfl) rfl (res_tmp rfl) (fun v hv => ⟨rfl, hv.below (by simp) (by simp only [keysOf, List.map_cons, List.map_nil, List.forall_mem_cons, List.not_mem_nil, false_imp_iff, implies_true, and_true] <;> omega)⟩)
    · rw [decide_eq_false hb] at hat
      repeat (first
        | refine cw_seq ?_
        | refine cw_block ?_
        | refine cw_skip ?_
        | refine cw_label ?_
        | refine cw_exit ?_
        | refine cw_ret ?_
        | refine qw_then ?_
        | refine qw_block_normal ?_
        | refine qw_block_exit ?_
        | refine qw_block_other rfl ?_
        | refine qw_block_ret ?_
        | refine qw_then_ret ?_
        | refine qw_then_exit ?_
        | refine cw_true rfl ?_
        | refine cw_false rfl ?_
        | refine cw_scope ?_
        | refine qw_scope_normal ?_
        | refine qw_scope_ret ?_
        | refine qw_scope_exit ?_
        | (refine cw_region (id := 0) ?_
           first | (refine o_a rfl (al_box_agg rfl) (fun b2 fb2 => ?_); try simp only [fresh_iff, keysOf, List.map_cons, List.map_nil, List.forall_mem_cons, List.not_mem_nil, false_imp_iff, implies_true, and_true] at fb2) | (refine o_a rfl (al_box rfl) (fun b2 fb2 => ?_); try simp only [fresh_iff, keysOf, List.map_cons, List.map_nil, List.forall_mem_cons, List.not_mem_nil, false_imp_iff, implies_true, and_true] at fb2)
           refine o_p rfl rfl ?_
           refine ow_nil ?_)
        | (refine cw_region (id := 1) ?_
           (refine o_c rfl rfl rfl en7 rfl (fun s hs => (alive_c _).mono ?_); rintro e w' ⟨rfl, hb⟩; refine ⟨_, _, _, rfl, hs.grow hb, ?_⟩; clear hb hs w' s)
           refine o_p rfl rfl ?_
           refine ow_nil ?_)
        | (refine cw_region (id := 2) ?_
           first | refine o_r rfl (rd_load_all rfl (by repeat (first | exact List.Mem.head _ | apply List.Mem.tail)) agg23 (by simp)) ?_ | refine o_r rfl (rd_load_agg rfl (by repeat (first | exact List.Mem.head _ | apply List.Mem.tail)) agg23 (by simp [Value.cells]) (by first | rfl | simp [Value.cells])) ?_
           refine o_p rfl rfl ?_
           first | (refine o_c rfl rfl rfl en11 rfl (fun s hs => (turn_in _ _ _ (by omega) (by omega)).mono ?_); rintro e w' ⟨rfl, hb⟩; refine ⟨_, _, _, rfl, hs.grow hb, ?_⟩; clear hb hs w' s) | (refine o_c rfl rfl rfl en11 rfl (fun s hs => (turn_no _ _ _ (by omega)).mono ?_); rintro e w' ⟨rfl, hb⟩; refine ⟨_, _, _, rfl, hs.grow hb, ?_⟩; clear hb hs w' s)
           refine o_p rfl rfl ?_
           refine o_p rfl rfl ?_
           refine o_p rfl rfl ?_
           first | (refine o_a rfl (al_alloc_agg zero23) (fun b6 fb6 => ?_); try simp only [fresh_iff, keysOf, List.map_cons, List.map_nil, List.forall_mem_cons, List.not_mem_nil, false_imp_iff, implies_true, and_true] at fb6) | (refine o_a rfl (al_alloc zero23) (fun b6 fb6 => ?_); try simp only [fresh_iff, keysOf, List.map_cons, List.map_nil, List.forall_mem_cons, List.not_mem_nil, false_imp_iff, implies_true, and_true] at fb6)
           first | refine o_w rfl (wr_store_all rfl rfl agg23 (by simp) (by simp) (by repeat (first | exact Upd.here | apply Upd.there)) (by simp)) ?_ | refine o_w rfl (wr_store_agg rfl rfl agg23 (by simp [Value.cells]) (by first | rfl | simp [Value.cells]) (by first | rfl | exact splice_all _ _ (by simp [Value.cells])) (by repeat (first | exact Upd.here | apply Upd.there)) (by simp [Value.cells])) ?_
           refine o_p rfl rfl ?_
           refine ow_nil ?_)
        | (refine cw_region (id := 3) ?_
           refine o_p rfl rfl ?_
           first | refine o_r rfl (r_cmp rfl rfl rfl (cmp_t (by omega))) ?_ | refine o_r rfl (r_cmp rfl rfl rfl (cmp_f (by omega))) ?_ | refine o_r rfl (r_cmp rfl rfl rfl rfl) ?_
           refine ow_nil ?_)
        | (refine cw_region (id := 4) ?_
           refine o_p rfl rfl ?_
           refine o_p rfl rfl ?_
           first | refine o_k rfl ?_ | refine o_r rfl (rd_load_all rfl (by repeat (first | exact List.Mem.head _ | apply List.Mem.tail)) agg23 (by simp)) ?_ | refine o_r rfl (rd_load_agg rfl (by repeat (first | exact List.Mem.head _ | apply List.Mem.tail)) agg23 (by simp [Value.cells]) (by first | rfl | simp [Value.cells])) ?_
           first | refine o_k rfl ?_ | refine o_r rfl (rd_build (by first | exact build23 | exact rfl)) ?_
           first | refine o_k rfl ?_ | refine o_r rfl (rd_eql_agg eg23 rfl rfl (fun w => eqlt23 (by first | rfl | assumption) w)) ?_ | refine o_r rfl (rd_eql_agg eg23 rfl rfl (fun w => eqlf23 (by assumption) w)) ?_ | refine o_r rfl (rd_eql_agg eg23 rfl rfl (fun w => eql23 _ _ w)) ?_
           refine o_p rfl rfl ?_
           refine o_p rfl rfl ?_
           refine ow_nil ?_)
        | (refine cw_region (id := 5) ?_
           first | refine o_r rfl (rd_load_all rfl (by repeat (first | exact List.Mem.head _ | apply List.Mem.tail)) agg23 (by simp)) ?_ | refine o_r rfl (rd_load_agg rfl (by repeat (first | exact List.Mem.head _ | apply List.Mem.tail)) agg23 (by simp [Value.cells]) (by first | rfl | simp [Value.cells])) ?_
           refine o_p rfl rfl ?_
           first | (refine o_c rfl rfl rfl en11 rfl (fun s hs => (turn_in _ _ _ (by omega) (by omega)).mono ?_); rintro e w' ⟨rfl, hb⟩; refine ⟨_, _, _, rfl, hs.grow hb, ?_⟩; clear hb hs w' s) | (refine o_c rfl rfl rfl en11 rfl (fun s hs => (turn_no _ _ _ (by omega)).mono ?_); rintro e w' ⟨rfl, hb⟩; refine ⟨_, _, _, rfl, hs.grow hb, ?_⟩; clear hb hs w' s)
           refine o_p rfl rfl ?_
           refine o_p rfl rfl ?_
           refine o_p rfl rfl ?_
           first | (refine o_a rfl (al_alloc_agg zero23) (fun b8 fb8 => ?_); try simp only [fresh_iff, keysOf, List.map_cons, List.map_nil, List.forall_mem_cons, List.not_mem_nil, false_imp_iff, implies_true, and_true] at fb8) | (refine o_a rfl (al_alloc zero23) (fun b8 fb8 => ?_); try simp only [fresh_iff, keysOf, List.map_cons, List.map_nil, List.forall_mem_cons, List.not_mem_nil, false_imp_iff, implies_true, and_true] at fb8)
           first | refine o_w rfl (wr_store_all rfl rfl agg23 (by simp) (by simp) (by repeat (first | exact Upd.here | apply Upd.there)) (by simp)) ?_ | refine o_w rfl (wr_store_agg rfl rfl agg23 (by simp [Value.cells]) (by first | rfl | simp [Value.cells]) (by first | rfl | exact splice_all _ _ (by simp [Value.cells])) (by repeat (first | exact Upd.here | apply Upd.there)) (by simp [Value.cells])) ?_
           refine o_p rfl rfl ?_
           refine ow_nil ?_)
        | (refine cw_region (id := 6) ?_
           first | refine o_r rfl (rd_load_all rfl (by repeat (first | exact List.Mem.head _ | apply List.Mem.tail)) agg23 (by simp)) ?_ | refine o_r rfl (rd_load_agg rfl (by repeat (first | exact List.Mem.head _ | apply List.Mem.tail)) agg23 (by simp [Value.cells]) (by first | rfl | simp [Value.cells])) ?_
           refine o_p rfl rfl ?_
           first | (refine o_c rfl rfl rfl en10 rfl (fun s hs => (bit_n _ _ _ (by omega)).mono ?_); rintro e w' ⟨rfl, hb⟩; refine ⟨_, _, _, rfl, hs.grow hb, ?_⟩; clear hb hs w' s) | (refine o_c rfl rfl rfl en10 rfl (fun s hs => (bit_in _ _ _ (by omega) (by omega)).mono ?_); rintro e w' ⟨rfl, hb⟩; refine ⟨_, _, _, rfl, hs.grow hb, ?_⟩; clear hb hs w' s) | (refine o_c rfl rfl rfl en10 rfl (fun s hs => (bit_no _ _ _ (by omega)).mono ?_); rintro e w' ⟨rfl, hb⟩; refine ⟨_, _, _, rfl, hs.grow hb, ?_⟩; clear hb hs w' s)
           refine o_p rfl rfl ?_
           refine o_p rfl rfl ?_
           refine o_p rfl rfl ?_
           refine o_p rfl rfl ?_
           refine o_p rfl rfl ?_
           refine ow_nil ?_)
        | (refine cw_region (id := 7) ?_
           first | (refine o_a rfl (al_alloc_agg zero23) (fun b12 fb12 => ?_); try simp only [fresh_iff, keysOf, List.map_cons, List.map_nil, List.forall_mem_cons, List.not_mem_nil, false_imp_iff, implies_true, and_true] at fb12) | (refine o_a rfl (al_alloc zero23) (fun b12 fb12 => ?_); try simp only [fresh_iff, keysOf, List.map_cons, List.map_nil, List.forall_mem_cons, List.not_mem_nil, false_imp_iff, implies_true, and_true] at fb12)
           refine ow_nil ?_)
        | (refine cw_region (id := 8) ?_
           refine o_p rfl rfl ?_
           refine ow_nil ?_)
        | (refine cw_region (id := 9) ?_
           refine o_p rfl rfl ?_
           first | refine o_r rfl (r_cmp rfl rfl rfl (cmp_t (by omega))) ?_ | refine o_r rfl (r_cmp rfl rfl rfl (cmp_f (by omega))) ?_ | refine o_r rfl (r_cmp rfl rfl rfl rfl) ?_
           refine ow_nil ?_)
        | (refine cw_region (id := 11) ?_
           first | refine o_r rfl (rd_load_all rfl (by repeat (first | exact List.Mem.head _ | apply List.Mem.tail)) agg23 (by simp)) ?_ | refine o_r rfl (rd_load_agg rfl (by repeat (first | exact List.Mem.head _ | apply List.Mem.tail)) agg23 (by simp [Value.cells]) (by first | rfl | simp [Value.cells])) ?_
           refine o_p rfl rfl ?_
           first | (refine o_c rfl rfl rfl en10 rfl (fun s hs => (bit_n _ _ _ (by omega)).mono ?_); rintro e w' ⟨rfl, hb⟩; refine ⟨_, _, _, rfl, hs.grow hb, ?_⟩; clear hb hs w' s) | (refine o_c rfl rfl rfl en10 rfl (fun s hs => (bit_in _ _ _ (by omega) (by omega)).mono ?_); rintro e w' ⟨rfl, hb⟩; refine ⟨_, _, _, rfl, hs.grow hb, ?_⟩; clear hb hs w' s) | (refine o_c rfl rfl rfl en10 rfl (fun s hs => (bit_no _ _ _ (by omega)).mono ?_); rintro e w' ⟨rfl, hb⟩; refine ⟨_, _, _, rfl, hs.grow hb, ?_⟩; clear hb hs w' s)
           refine o_p rfl rfl ?_
           refine o_p rfl rfl ?_
           refine o_p rfl rfl ?_
           refine o_p rfl rfl ?_
           refine o_p rfl rfl ?_
           refine ow_nil ?_)
        | (refine cw_region (id := 12) ?_
           refine o_p rfl rfl ?_
           first | refine o_r rfl (r_cmp rfl rfl rfl (cmp_t (by omega))) ?_ | refine o_r rfl (r_cmp rfl rfl rfl (cmp_f (by omega))) ?_ | refine o_r rfl (r_cmp rfl rfl rfl rfl) ?_
           refine o_p rfl rfl ?_
           first | refine o_k rfl ?_ | refine o_p rfl rfl ?_
           first | refine o_k rfl ?_ | refine o_r rfl (r_cmp rfl rfl rfl (cmp_t (by omega))) ?_ | refine o_r rfl (r_cmp rfl rfl rfl (cmp_f (by omega))) ?_ | refine o_r rfl (r_cmp rfl rfl rfl rfl) ?_
           refine o_p rfl rfl ?_
           refine ow_nil ?_)
        | (refine cw_region (id := 13) ?_
           refine o_p rfl rfl ?_
           refine ow_nil ?_)
        | (refine cw_region (id := 14) ?_
           refine o_p rfl rfl ?_
           first | refine o_r rfl (rd_quo rfl rfl (by omega) (IntWalk.i64_quo _ _ (by omega))) ?_ | refine o_r rfl (rd_quo rfl rfl (by omega) rfl) ?_
           refine o_p rfl rfl ?_
           first | refine o_r rfl (rd_quo rfl rfl (by omega) (IntWalk.i64_quo _ _ (by omega))) ?_ | refine o_r rfl (rd_quo rfl rfl (by omega) rfl) ?_
           first | refine o_r rfl (rd_indexAddr_arr Try.underlying23 sz5 rfl rfl (by omega) (by omega) (by rw [Nat.zero_add, Nat.mul_one])) ?_ | refine o_r rfl (rd_indexAddr_arr Try.underlying23 sz5 rfl rfl (by omega) (by omega) (by rw [Nat.zero_add])) ?_ | refine o_r rfl (rd_indexAddr_arr Try.underlying23 sz5 rfl rfl (by omega) (by omega) rfl) ?_
           refine o_r rfl (rd_load rfl (by repeat (first | exact List.Mem.head _ | apply List.Mem.tail)) one5 (by first | rfl | assumption)) ?_
           first | refine o_r rfl (r_ar rfl rfl rfl (IntWalk.u8_in _ (by omega))) ?_ | refine o_r rfl (r_ar rfl rfl rfl rfl) ?_
           refine o_p rfl rfl ?_
           first | refine o_r rfl (r_ar rfl rfl rfl (IntWalk.u8_in _ (by omega))) ?_ | refine o_r rfl (r_ar rfl rfl rfl rfl) ?_
           first | refine o_r rfl (rd_indexAddr_arr Try.underlying23 sz5 rfl rfl (by omega) (by omega) (by rw [Nat.zero_add, Nat.mul_one])) ?_ | refine o_r rfl (rd_indexAddr_arr Try.underlying23 sz5 rfl rfl (by omega) (by omega) (by rw [Nat.zero_add])) ?_ | refine o_r rfl (rd_indexAddr_arr Try.underlying23 sz5 rfl rfl (by omega) (by omega) rfl) ?_
           refine o_w rfl (wr_store rfl rfl sz5 rfl (by repeat (first | exact Upd.here | apply Upd.there)) (by simp [Value.cells])) ?_
           refine ow_nil ?_)
        | (refine cw_region (id := 10) ?_
           refine o_p rfl rfl ?_
           first | refine o_r rfl (r_ar rfl rfl rfl (IntWalk.i64_in _ (by omega))) ?_ | refine o_r rfl (r_ar rfl rfl rfl rfl) ?_
           refine o_p rfl rfl ?_
           refine ow_nil ?_)
        | (refine cw_region (id := 15) ?_
           refine o_p rfl rfl ?_
           refine o_p rfl rfl ?_
           first | refine o_k rfl ?_ | refine o_p rfl rfl ?_
           first | refine o_k rfl ?_ | refine o_r rfl (r_cmp rfl rfl rfl (cmp_t (by omega))) ?_ | refine o_r rfl (r_cmp rfl rfl rfl (cmp_f (by omega))) ?_ | refine o_r rfl (r_cmp rfl rfl rfl rfl) ?_
           refine o_p rfl rfl ?_
           refine o_p rfl rfl ?_
           first | refine o_k rfl ?_ | refine o_r rfl (rd_load_all rfl (by repeat (first | exact List.Mem.head _ | apply List.Mem.tail)) agg23 (by simp)) ?_ | refine o_r rfl (rd_load_agg rfl (by repeat (first | exact List.Mem.head _ | apply List.Mem.tail)) agg23 (by simp [Value.cells]) (by first | rfl | simp [Value.cells])) ?_
           first | refine o_k rfl ?_ | refine o_r rfl (rd_load_all rfl (by repeat (first | exact List.Mem.head _ | apply List.Mem.tail)) agg23 (by simp)) ?_ | refine o_r rfl (rd_load_agg rfl (by repeat (first | exact List.Mem.head _ | apply List.Mem.tail)) agg23 (by simp [Value.cells]) (by first | rfl | simp [Value.cells])) ?_
           first | refine o_k rfl ?_ | refine o_r rfl (rd_eql_agg eg23 rfl rfl (fun w => eqlt23 (by first | rfl | assumption) w)) ?_ | refine o_r rfl (rd_eql_agg eg23 rfl rfl (fun w => eqlf23 (by assumption) w)) ?_ | refine o_r rfl (rd_eql_agg eg23 rfl rfl (fun w => eql23 _ _ w)) ?_
           refine o_p rfl rfl ?_
           refine o_p rfl rfl ?_
           first | refine o_k rfl ?_ | refine o_p rfl rfl ?_
           first | refine o_k rfl ?_ | refine o_r rfl (r_cmp rfl rfl rfl (cmp_t (by omega))) ?_ | refine o_r rfl (r_cmp rfl rfl rfl (cmp_f (by omega))) ?_ | refine o_r rfl (r_cmp rfl rfl rfl rfl) ?_
           refine o_p rfl rfl ?_
           refine o_p rfl rfl ?_
           first | refine o_k rfl ?_ | refine o_r rfl (rd_load_all rfl (by repeat (first | exact List.Mem.head _ | apply List.Mem.tail)) agg23 (by simp)) ?_ | refine o_r rfl (rd_load_agg rfl (by repeat (first | exact List.Mem.head _ | apply List.Mem.tail)) agg23 (by simp [Value.cells]) (by first | rfl | simp [Value.cells])) ?_
           first | refine o_k rfl ?_ | refine o_r rfl (rd_load_all rfl (by repeat (first | exact List.Mem.head _ | apply List.Mem.tail)) agg23 (by simp)) ?_ | refine o_r rfl (rd_load_agg rfl (by repeat (first | exact List.Mem.head _ | apply List.Mem.tail)) agg23 (by simp [Value.cells]) (by first | rfl | simp [Value.cells])) ?_
           first | refine o_k rfl ?_ | (refine o_c rfl rfl rfl en9 rfl (fun s hs => (shared_c _ _ _).mono ?_); rintro e w' ⟨rfl, hb⟩; refine ⟨_, _, _, rfl, hs.grow hb, ?_⟩; clear hb hs w' s)
           first | refine o_k rfl ?_ | refine o_p rfl rfl ?_
           first | refine o_k rfl ?_ | refine o_r rfl (r_cmp rfl rfl rfl (cmp_t (by omega))) ?_ | refine o_r rfl (r_cmp rfl rfl rfl (cmp_f (by omega))) ?_ | refine o_r rfl (r_cmp rfl rfl rfl rfl) ?_
           refine o_p rfl rfl ?_
           refine o_p rfl rfl ?_
           first | refine o_k rfl ?_ | refine o_r rfl (rd_load_all rfl (by repeat (first | exact List.Mem.head _ | apply List.Mem.tail)) agg23 (by simp)) ?_ | refine o_r rfl (rd_load_agg rfl (by repeat (first | exact List.Mem.head _ | apply List.Mem.tail)) agg23 (by simp [Value.cells]) (by first | rfl | simp [Value.cells])) ?_
           first | refine o_k rfl ?_ | refine o_r rfl (rd_load_all rfl (by repeat (first | exact List.Mem.head _ | apply List.Mem.tail)) agg23 (by simp)) ?_ | refine o_r rfl (rd_load_agg rfl (by repeat (first | exact List.Mem.head _ | apply List.Mem.tail)) agg23 (by simp [Value.cells]) (by first | rfl | simp [Value.cells])) ?_
           first | refine o_k rfl ?_ | (refine o_c rfl rfl rfl en8 rfl (fun s hs => (ahead_v _ (by assumption)).mono ?_); rintro e w' ⟨rfl, hb⟩; refine ⟨_, _, _, rfl, hs.grow hb, ?_⟩; clear hb hs w' s)
           first | refine o_k rfl ?_ | refine o_p rfl rfl ?_
           first | refine o_k rfl ?_ | refine o_r rfl (r_cmp rfl rfl rfl (cmp_t (by omega))) ?_ | refine o_r rfl (r_cmp rfl rfl rfl (cmp_f (by omega))) ?_ | refine o_r rfl (r_cmp rfl rfl rfl rfl) ?_
           first | refine o_k rfl ?_ | refine o_r rfl (rd_eql_bool Try.underlying4 rfl rfl rfl) ?_
           refine o_p rfl rfl ?_
           refine o_p rfl rfl ?_
           first | refine o_k rfl ?_ | refine o_r rfl (rd_load_all rfl (by repeat (first | exact List.Mem.head _ | apply List.Mem.tail)) agg23 (by simp)) ?_ | refine o_r rfl (rd_load_agg rfl (by repeat (first | exact List.Mem.head _ | apply List.Mem.tail)) agg23 (by simp [Value.cells]) (by first | rfl | simp [Value.cells])) ?_
           first | refine o_k rfl ?_ | refine o_r rfl (rd_load_all rfl (by repeat (first | exact List.Mem.head _ | apply List.Mem.tail)) agg23 (by simp)) ?_ | refine o_r rfl (rd_load_agg rfl (by repeat (first | exact List.Mem.head _ | apply List.Mem.tail)) agg23 (by simp [Value.cells]) (by first | rfl | simp [Value.cells])) ?_
           first | refine o_k rfl ?_ | refine o_r rfl (rd_eql_agg eg23 rfl rfl (fun w => eqlt23 (by first | rfl | assumption) w)) ?_ | refine o_r rfl (rd_eql_agg eg23 rfl rfl (fun w => eqlf23 (by assumption) w)) ?_ | refine o_r rfl (rd_eql_agg eg23 rfl rfl (fun w => eql23 _ _ w)) ?_
           refine o_p rfl rfl ?_
           refine o_p rfl rfl ?_
           refine ow_nil ?_))
      exact fin1 (.inl rfl) rfl (res_tmp rfl) (fun v hv => ⟨rfl, hv.below (by simp) (by simp only [keysOf, List.map_cons, List.map_nil, List.forall_mem_cons, List.not_mem_nil, false_imp_iff, implies_true, and_true] <;> omega)⟩)
theorem turns_c (k : Dig) (i : Int) (w : World) : Calls Try.prog 6 #[.agg (dv k), .int .i64 i] w fun e w' => e = .returned (.bool true) ∧ Below w.heap.size w w' := by
  rcases Classical.em (0 ≤ i ∧ i < 256) with ⟨h0, h1⟩ | h
  · exact turns_in k i w h0 h1
  · exact turns_no k i w (by omega)
end Go.Proofs.Ytnlhkpdclnhneaa

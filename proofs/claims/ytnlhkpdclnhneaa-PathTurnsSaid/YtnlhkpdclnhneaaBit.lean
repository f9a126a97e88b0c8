import Derived.Test.YtnlhkpdclnhneaaFact
namespace Go.Proofs.Ytnlhkpdclnhneaa
open Go.RowKit
attribute [local irreducible] Go.Calls
@[irreducible] def bitN (k : Dig) (i : Nat) : Nat := kn k (i / 8) / 2 ^ (7 - i % 8) % 2

theorem and_one (m : Int) (h0 : 0 ≤ m) (h1 : m ≤ 255) : IntKind.u8.wrap ((((m % 2 ^ IntKind.u8.bits).toNat &&& ((1 : Int) % 2 ^ IntKind.u8.bits).toNat : Nat)) : Int) = m % 2 := by
  have e1 : ((m % 2 ^ IntKind.u8.bits).toNat) = m.toNat := by
    show (m % 2 ^ 8).toNat = _; omega
  have e2 : ((1 : Int) % 2 ^ IntKind.u8.bits).toNat = 1 := by decide
  rw [e1, e2, Nat.and_one_is_mod, IntWalk.u8_in _ (by omega)]
  omega
theorem shr_u8 (m n : Int) (h0 : 0 ≤ m) (hn : 0 ≤ n) (hn7 : n ≤ 8) : m.fdiv (2 ^ min n.toNat IntKind.u8.bits) = m / 2 ^ n.toNat := by
  rw [show min n.toNat IntKind.u8.bits = n.toNat from by show min n.toNat 8 = _; omega]
  rw [Int.fdiv_eq_ediv_of_nonneg _ (by exact Int.le_of_lt (Int.pow_pos (by omega)))]
theorem bitN_eq (k : Dig) (i : Int) (h0 : 0 ≤ i) (h1 : i < 256) : ((kn k (i / 8).toNat : Int) / 2 ^ (7 - i % 8).toNat) % 2 = (bitN k i.toNat : Int) := by
  unfold bitN
  have e1 : (i / 8).toNat = i.toNat / 8 := by omega
  have e2 : (7 - i % 8).toNat = 7 - i.toNat % 8 := by omega
  rw [e1, e2]; simp
theorem div_pow_bd (m : Nat) (n : Nat) (h : m ≤ 255) : 0 ≤ (m : Int) / 2 ^ n ∧ (m : Int) / 2 ^ n ≤ 255 := by
  have h1 : (m : Int) / 2 ^ n = ((m / 2 ^ n : Nat) : Int) := by simp
  have h2 := Nat.div_le_self m (2 ^ n)
  rw [h1]
  generalize m / 2 ^ n = q at h2
  omega
theorem bit_in (k : Dig) (i : Int) (w : World) (h0 : 0 ≤ i) (h1 : i < 256) :
    Calls Try.prog 10 #[.agg (dv k), .int .i64 i] w fun e w' => e = .returned (.tuple #[.int .u8 (bitN k i.toNat), .int .i64 0]) ∧ Below w.heap.size w w' := by
  have hg := dv_get k (i := (i/8).toNat) (by omega)
  have hle := kn_le k ((i / 8).toNat)
  have hd := div_pow_bd _ (7 - i % 8).toNat hle
  refine enter Try.func10 rfl (Nat.le_of_ble_eq_true rfl) (kn0 w) (vs := [_, _]) (fr0 := [(0, _), (1, _)]) rfl (n := 21) rfl ?_
  repeat (first
    | refine cw_seq ?_
    | refine cw_block ?_
    | refine cw_skip ?_
    | refine cw_label ?_
    | refine cw_exit ?_
    | refine cw_ret ?_
    | refine qw_then ?_
    | refine qw_block_normal ?_
    | refine qw_block_exit ?_
    | refine qw_block_other rfl ?_
    | refine qw_block_ret ?_
    | refine qw_then_ret ?_
    | refine qw_then_exit ?_
    | refine cw_true rfl ?_
    | refine cw_false rfl ?_
    | refine cw_scope ?_
    | refine qw_scope_normal ?_
    | refine qw_scope_ret ?_
    | refine qw_scope_exit ?_
    | (refine cw_region (id := 0) ?_
       first | (refine o_a rfl (al_box_agg rfl) (fun b2 fb2 => ?_); try simp only [fresh_iff, keysOf, List.map_cons, List.map_nil, List.forall_mem_cons, List.not_mem_nil, false_imp_iff, implies_true, and_true] at fb2) | (refine o_a rfl (al_box rfl) (fun b2 fb2 => ?_); try simp only [fresh_iff, keysOf, List.map_cons, List.map_nil, List.forall_mem_cons, List.not_mem_nil, false_imp_iff, implies_true, and_true] at fb2)
       refine o_p rfl rfl ?_
       refine o_p rfl rfl ?_
       refine ow_nil ?_)
    | (refine cw_region (id := 1) ?_
       refine o_p rfl rfl ?_
       first | refine o_r rfl (r_cmp rfl rfl rfl (cmp_t (by omega))) ?_ | refine o_r rfl (r_cmp rfl rfl rfl (cmp_f (by omega))) ?_ | refine o_r rfl (r_cmp rfl rfl rfl rfl) ?_
       refine o_p rfl rfl ?_
       first | refine o_k rfl ?_ | refine o_p rfl rfl ?_
       first | refine o_k rfl ?_ | refine o_r rfl (r_cmp rfl rfl rfl (cmp_t (by omega))) ?_ | refine o_r rfl (r_cmp rfl rfl rfl (cmp_f (by omega))) ?_ | refine o_r rfl (r_cmp rfl rfl rfl rfl) ?_
       refine o_p rfl rfl ?_
       refine ow_nil ?_)
    | (refine cw_region (id := 2) ?_
       refine o_p rfl rfl ?_
       refine o_p rfl rfl ?_
       refine ow_nil ?_)
    | (refine cw_region (id := 3) ?_
       refine o_p rfl rfl ?_
       first | refine o_r rfl (rd_quo rfl rfl (by omega) (IntWalk.i64_quo _ _ (by omega))) ?_ | refine o_r rfl (rd_quo rfl rfl (by omega) rfl) ?_
       first | refine o_r rfl (rd_indexAddr_arr Try.underlying23 sz5 rfl rfl (by omega) (by omega) (by rw [Nat.zero_add, Nat.mul_one])) ?_ | refine o_r rfl (rd_indexAddr_arr Try.underlying23 sz5 rfl rfl (by omega) (by omega) (by rw [Nat.zero_add])) ?_ | refine o_r rfl (rd_indexAddr_arr Try.underlying23 sz5 rfl rfl (by omega) (by omega) rfl) ?_
       refine o_r rfl (rd_load rfl (by repeat (first | exact List.Mem.head _ | apply List.Mem.tail)) one5 (by first | rfl | assumption)) ?_
       refine o_p rfl rfl ?_
       first | refine o_r rfl (rd_rem rfl rfl (by omega) (IntWalk.rem_in _ _ (by omega))) ?_ | refine o_r rfl (rd_rem rfl rfl (by omega) rfl) ?_
       first | refine o_r rfl (r_ar rfl rfl rfl (IntWalk.i64_in _ (by omega))) ?_ | refine o_r rfl (r_ar rfl rfl rfl rfl) ?_
       refine o_r rfl (rd_shr rfl rfl (by omega) (shr_u8 _ _ (by omega) (by omega) (by omega))) ?_
       refine o_r rfl (rd_and rfl rfl (and_one _ (by omega) (by omega))) ?_
       refine o_p rfl rfl ?_
       refine o_p rfl rfl ?_
       refine ow_nil ?_))
  refine fin2 (.inl rfl) rfl (res_tmp rfl) (res_tmp rfl) (fun v hv => ⟨?_, hv.below (by simp) (by simp only [keysOf, List.map_cons, List.map_nil, List.forall_mem_cons, List.not_mem_nil, false_imp_iff, implies_true, and_true] <;> omega)⟩)
  rw [bitN_eq k i h0 h1]
theorem bit_no (k : Dig) (i : Int) (w : World) (h : i < 0 ∨ 256 ≤ i) :
    Calls Try.prog 10 #[.agg (dv k), .int .i64 i] w fun e w' => e = .returned (.tuple #[.int .u8 0, .int .i64 2]) ∧ Below w.heap.size w w' := by
  rcases h with h | h
  all_goals
    refine enter Try.func10 rfl (Nat.le_of_ble_eq_true rfl) (kn0 w) (vs := [_, _]) (fr0 := [(0, _), (1, _)]) rfl (n := 21) rfl ?_
    repeat (first
      | refine cw_seq ?_
      | refine cw_block ?_
      | refine cw_skip ?_
      | refine cw_label ?_
      | refine cw_exit ?_
      | refine cw_ret ?_
      | refine qw_then ?_
      | refine qw_block_normal ?_
      | refine qw_block_exit ?_
      | refine qw_block_other rfl ?_
      | refine qw_block_ret ?_
      | refine qw_then_ret ?_
      | refine qw_then_exit ?_
      | refine cw_true rfl ?_
      | refine cw_false rfl ?_
      | refine cw_scope ?_
      | refine qw_scope_normal ?_
      | refine qw_scope_ret ?_
      | refine qw_scope_exit ?_
      | (refine cw_region (id := 0) ?_
         first | (refine o_a rfl (al_box_agg rfl) (fun b2 fb2 => ?_); try simp only [fresh_iff, keysOf, List.map_cons, List.map_nil, List.forall_mem_cons, List.not_mem_nil, false_imp_iff, implies_true, and_true] at fb2) | (refine o_a rfl (al_box rfl) (fun b2 fb2 => ?_); try simp only [fresh_iff, keysOf, List.map_cons, List.map_nil, List.forall_mem_cons, List.not_mem_nil, false_imp_iff, implies_true, and_true] at fb2)
         refine o_p rfl rfl ?_
         refine o_p rfl rfl ?_
         refine ow_nil ?_)
      | (refine cw_region (id := 1) ?_
         refine o_p rfl rfl ?_
         first | refine o_r rfl (r_cmp rfl rfl rfl (cmp_t (by omega))) ?_ | refine o_r rfl (r_cmp rfl rfl rfl (cmp_f (by omega))) ?_ | refine o_r rfl (r_cmp rfl rfl rfl rfl) ?_
         refine o_p rfl rfl ?_
         first | refine o_k rfl ?_ | refine o_p rfl rfl ?_
         first | refine o_k rfl ?_ | refine o_r rfl (r_cmp rfl rfl rfl (cmp_t (by omega))) ?_ | refine o_r rfl (r_cmp rfl rfl rfl (cmp_f (by omega))) ?_ | refine o_r rfl (r_cmp rfl rfl rfl rfl) ?_
         refine o_p rfl rfl ?_
         refine ow_nil ?_)
      | (refine cw_region (id := 2) ?_
         refine o_p rfl rfl ?_
         refine o_p rfl rfl ?_
         refine ow_nil ?_)
      | (refine cw_region (id := 3) ?_
         refine o_p rfl rfl ?_
         first | refine o_r rfl (rd_quo rfl rfl (by omega) (IntWalk.i64_quo _ _ (by omega))) ?_ | refine o_r rfl (rd_quo rfl rfl (by omega) rfl) ?_
         first | refine o_r rfl (rd_indexAddr_arr Try.underlying23 sz5 rfl rfl (by omega) (by omega) (by rw [Nat.zero_add, Nat.mul_one])) ?_ | refine o_r rfl (rd_indexAddr_arr Try.underlying23 sz5 rfl rfl (by omega) (by omega) (by rw [Nat.zero_add])) ?_ | refine o_r rfl (rd_indexAddr_arr Try.underlying23 sz5 rfl rfl (by omega) (by omega) rfl) ?_
         refine o_r rfl (rd_load rfl (by repeat (first | exact List.Mem.head _ | apply List.Mem.tail)) one5 (by first | rfl | assumption)) ?_
         refine o_p rfl rfl ?_
         first | refine o_r rfl (rd_rem rfl rfl (by omega) (IntWalk.rem_in _ _ (by omega))) ?_ | refine o_r rfl (rd_rem rfl rfl (by omega) rfl) ?_
         first | refine o_r rfl (r_ar rfl rfl rfl (IntWalk.i64_in _ (by omega))) ?_ | refine o_r rfl (r_ar rfl rfl rfl rfl) ?_
         refine o_r rfl (rd_shr rfl rfl (by omega) rfl) ?_
         refine o_r rfl (rd_and rfl rfl rfl) ?_
         refine o_p rfl rfl ?_
         refine o_p rfl rfl ?_
         refine ow_nil ?_))
    exact fin2 (.inl rfl) rfl (res_tmp rfl) (res_tmp rfl) (fun v hv => ⟨rfl, hv.below (by simp) (by simp only [keysOf, List.map_cons, List.map_nil, List.forall_mem_cons, List.not_mem_nil, false_imp_iff, implies_true, and_true] <;> omega)⟩)
end Go.Proofs.Ytnlhkpdclnhneaa

import Derived.Test.YtnlhkpdclnhneaaPathE
namespace Go.Proofs.Ytnlhkpdclnhneaa
open Go.RowKit
attribute [local irreducible] Go.Calls
/-! examples -/
theorem lbit_c (k : Dig) (i n : Int) (w : World) (h0 : 0 ≤ i) (h1 : i < 256) (h : (bitN k i.toNat : Int) = n) : Calls Try.prog 16 #[.agg (dv k), .int .i64 i, .int .u8 n] w fun e w' => e = .returned (.bool true) ∧ Below w.heap.size w w' := by
  refine enter Try.func16 rfl (Nat.le_of_ble_eq_true rfl) (kn0 w) (vs := [_, _, _]) (fr0 := [(0, _), (1, _), (2, _)]) rfl (n := 22) rfl ?_
  repeat (first
    | refine cw_seq ?_
    | refine cw_block ?_
    | refine cw_skip ?_
    | refine cw_label ?_
    | refine cw_exit ?_
    | refine cw_ret ?_
    | refine qw_then ?_
    | refine qw_block_normal ?_
    | refine qw_block_exit ?_
    | refine qw_block_other rfl ?_
    | refine qw_block_ret ?_
    | refine qw_then_ret ?_
    | refine qw_then_exit ?_
    | refine cw_true rfl ?_
    | refine cw_false rfl ?_
    | refine cw_scope ?_
    | refine qw_scope_normal ?_
    | refine qw_scope_ret ?_
    | refine qw_scope_exit ?_
    | (refine cw_region (id := 0) ?_
       first | (refine o_a rfl (al_box_agg rfl) (fun b3 fb3 => ?_); try simp only [fresh_iff, keysOf, List.map_cons, List.map_nil, List.forall_mem_cons, List.not_mem_nil, false_imp_iff, implies_true, and_true] at fb3) | (refine o_a rfl (al_box rfl) (fun b3 fb3 => ?_); try simp only [fresh_iff, keysOf, List.map_cons, List.map_nil, List.forall_mem_cons, List.not_mem_nil, false_imp_iff, implies_true, and_true] at fb3)
       refine o_p rfl rfl ?_
       refine ow_nil ?_)
    | (refine cw_region (id := 1) ?_
       first | refine o_r rfl (rd_load_all rfl (by repeat (first | exact List.Mem.head _ | apply List.Mem.tail)) agg23 (by simp)) ?_ | refine o_r rfl (rd_load_agg rfl (by repeat (first | exact List.Mem.head _ | apply List.Mem.tail)) agg23 (by simp [Value.cells]) (by first | rfl | simp [Value.cells])) ?_
       refine o_p rfl rfl ?_
       first | (refine o_c rfl rfl rfl en10 rfl (fun s hs => (bit_in _ _ _ (by omega) (by omega)).mono ?_); rintro e w' ⟨rfl, hb⟩; refine ⟨_, _, _, rfl, hs.grow hb, ?_⟩; clear hb hs w' s) | (refine o_c rfl rfl rfl en10 rfl (fun s hs => (bit_no _ _ _ (by omega)).mono ?_); rintro e w' ⟨rfl, hb⟩; refine ⟨_, _, _, rfl, hs.grow hb, ?_⟩; clear hb hs w' s)
       refine o_p rfl rfl ?_
       refine o_p rfl rfl ?_
       refine o_p rfl rfl ?_
       refine o_p rfl rfl ?_
       refine o_p rfl rfl ?_
       refine ow_nil ?_)
    | (refine cw_region (id := 2) ?_
       refine o_p rfl rfl ?_
       first | refine o_r rfl (r_cmp rfl rfl rfl (cmp_t (by omega))) ?_ | refine o_r rfl (r_cmp rfl rfl rfl (cmp_f (by omega))) ?_ | refine o_r rfl (r_cmp rfl rfl rfl rfl) ?_
       refine o_p rfl rfl ?_
       first | refine o_k rfl ?_ | refine o_p rfl rfl ?_
       first | refine o_k rfl ?_ | refine o_p rfl rfl ?_
       first | refine o_k rfl ?_ | refine o_r rfl (r_cmp rfl rfl rfl (cmp_t (by omega))) ?_ | refine o_r rfl (r_cmp rfl rfl rfl (cmp_f (by omega))) ?_ | refine o_r rfl (r_cmp rfl rfl rfl rfl) ?_
       refine o_p rfl rfl ?_
       refine o_p rfl rfl ?_
       refine ow_nil ?_))
  exact fin1 (.inl rfl) rfl (res_tmp rfl) (fun v hv => ⟨rfl, hv.below (by simp) (by simp only [keysOf, List.map_cons, List.map_nil, List.forall_mem_cons, List.not_mem_nil, false_imp_iff, implies_true, and_true] <;> omega)⟩)
theorem s128 : sharedD (oneD 128) (oneD 192) = 1 := by decide +kernel
theorem s5 : sharedD (oneD 5) (oneD 5) = 256 := by decide +kernel
theorem a127 : aheadD (oneD 127) (oneD 128) = true := by decide +kernel
theorem a5 : aheadD (oneD 5) (oneD 5) = false := by decide +kernel
theorem t129 : turnM (oneD 129) (Int.toNat 7) = oneD 128 := by decide +kernel
theorem alive_c (w : World) : Calls Try.prog 7 #[] w fun e w' => e = .returned (.bool true) ∧ Below w.heap.size w w' := by
  have hs := s128
  refine enter Try.func7 rfl (Nat.le_of_ble_eq_true rfl) (kn0 w) (vs := []) (fr0 := []) rfl (n := 19) rfl ?_
  repeat (first
    | refine cw_seq ?_
    | refine cw_block ?_
    | refine cw_skip ?_
    | refine cw_label ?_
    | refine cw_exit ?_
    | refine cw_ret ?_
    | refine qw_then ?_
    | refine qw_block_normal ?_
    | refine qw_block_exit ?_
    | refine qw_block_other rfl ?_
    | refine qw_block_ret ?_
    | refine qw_then_ret ?_
    | refine qw_then_exit ?_
    | refine cw_true rfl ?_
    | refine cw_false rfl ?_
    | refine cw_scope ?_
    | refine qw_scope_normal ?_
    | refine qw_scope_ret ?_
    | refine qw_scope_exit ?_
    | (refine cw_region (id := 0) ?_
       refine o_p rfl rfl ?_
       refine ow_nil ?_)
    | (refine cw_region (id := 1) ?_
       refine o_r rfl (rd_build rfl build_129) ?_
       first | (refine o_a rfl (al_alloc_agg zero23) (fun b1 fb1 => ?_); try simp only [fresh_iff, keysOf, List.map_cons, List.map_nil, List.forall_mem_cons, List.not_mem_nil, false_imp_iff, implies_true, and_true] at fb1) | (refine o_a rfl (al_alloc zero23) (fun b1 fb1 => ?_); try simp only [fresh_iff, keysOf, List.map_cons, List.map_nil, List.forall_mem_cons, List.not_mem_nil, false_imp_iff, implies_true, and_true] at fb1)
       first | refine o_w rfl (wr_store_all rfl rfl agg23 (by simp) (by simp) (by repeat (first | exact Upd.here | apply Upd.there)) (by simp)) ?_ | refine o_w rfl (wr_store_agg rfl rfl agg23 (by simp [Value.cells]) (by first | rfl | simp [Value.cells]) (by first | rfl | exact splice_all _ _ (by simp [Value.cells])) (by repeat (first | exact Upd.here | apply Upd.there)) (by simp [Value.cells])) ?_
       refine ow_nil ?_)
    | (refine cw_region (id := 2) ?_
       first | refine o_r rfl (rd_load_all rfl (by repeat (first | exact List.Mem.head _ | apply List.Mem.tail)) agg23 (by simp)) ?_ | refine o_r rfl (rd_load_agg rfl (by repeat (first | exact List.Mem.head _ | apply List.Mem.tail)) agg23 (by simp [Value.cells]) (by first | rfl | simp [Value.cells])) ?_
       (refine o_c rfl rfl rfl en16 rfl (fun s hs => (lbit_c _ _ _ _ (by omega) (by omega) (by decide +kernel)).mono ?_); rintro e w' ⟨rfl, hb⟩; refine ⟨_, _, _, rfl, hs.grow hb, ?_⟩; clear hb hs w' s)
       refine o_p rfl rfl ?_
       first | refine o_k rfl ?_ | refine o_r rfl (rd_load_all rfl (by repeat (first | exact List.Mem.head _ | apply List.Mem.tail)) agg23 (by simp)) ?_ | refine o_r rfl (rd_load_agg rfl (by repeat (first | exact List.Mem.head _ | apply List.Mem.tail)) agg23 (by simp [Value.cells]) (by first | rfl | simp [Value.cells])) ?_
       first | refine o_k rfl ?_ | (refine o_c rfl rfl rfl en16 rfl (fun s hs => (lbit_c _ _ _ _ (by omega) (by omega) (by decide +kernel)).mono ?_); rintro e w' ⟨rfl, hb⟩; refine ⟨_, _, _, rfl, hs.grow hb, ?_⟩; clear hb hs w' s)
       refine o_p rfl rfl ?_
       refine o_p rfl rfl ?_
       first | refine o_k rfl ?_ | refine o_r rfl (rd_load_all rfl (by repeat (first | exact List.Mem.head _ | apply List.Mem.tail)) agg23 (by simp)) ?_ | refine o_r rfl (rd_load_agg rfl (by repeat (first | exact List.Mem.head _ | apply List.Mem.tail)) agg23 (by simp [Value.cells]) (by first | rfl | simp [Value.cells])) ?_
       first | refine o_k rfl ?_ | (refine o_c rfl rfl rfl en16 rfl (fun s hs => (lbit_c _ _ _ _ (by omega) (by omega) (by decide +kernel)).mono ?_); rintro e w' ⟨rfl, hb⟩; refine ⟨_, _, _, rfl, hs.grow hb, ?_⟩; clear hb hs w' s)
       refine o_p rfl rfl ?_
       refine o_p rfl rfl ?_
       first | refine o_k rfl ?_ | refine o_r rfl (rd_build rfl build_128) ?_
       first | refine o_k rfl ?_ | refine o_r rfl (rd_build rfl build_192) ?_
       first | refine o_k rfl ?_ | (refine o_c rfl rfl rfl en9 rfl (fun s hs => (shared_c _ _ _).mono ?_); rintro e w' ⟨rfl, hb⟩; refine ⟨_, _, _, rfl, hs.grow hb, ?_⟩; clear hb hs w' s)
       first | refine o_k rfl ?_ | refine o_r rfl (r_cmp rfl rfl rfl (cmp_t (by omega))) ?_ | refine o_r rfl (r_cmp rfl rfl rfl (cmp_f (by omega))) ?_ | refine o_r rfl (r_cmp rfl rfl rfl rfl) ?_
       refine o_p rfl rfl ?_
       refine o_p rfl rfl ?_
       refine ow_nil ?_))
  exact fin1 (.inl rfl) rfl (res_tmp rfl) (fun v hv => ⟨rfl, hv.below (by simp) (by simp only [keysOf, List.map_cons, List.map_nil, List.forall_mem_cons, List.not_mem_nil, false_imp_iff, implies_true, and_true] <;> omega)⟩)
theorem names_c (w : World) : Calls Try.prog 4 #[] w fun e w' => e = .returned (.bool true) ∧ Below w.heap.size w w' := by
  have hs := s5
  have h1 := a127
  have h2 := a5
  have h3 := t129
  refine enter Try.func4 rfl (Nat.le_of_ble_eq_true rfl) (kn0 w) (vs := []) (fr0 := []) rfl (n := 52) rfl ?_
  repeat (first
    | refine cw_seq ?_
    | refine cw_block ?_
    | refine cw_skip ?_
    | refine cw_label ?_
    | refine cw_exit ?_
    | refine cw_ret ?_
    | refine qw_then ?_
    | refine qw_block_normal ?_
    | refine qw_block_exit ?_
    | refine qw_block_other rfl ?_
    | refine qw_block_ret ?_
    | refine qw_then_ret ?_
    | refine qw_then_exit ?_
    | refine cw_true rfl ?_
    | refine cw_false rfl ?_
    | refine cw_scope ?_
    | refine qw_scope_normal ?_
    | refine qw_scope_ret ?_
    | refine qw_scope_exit ?_
    | (refine cw_region (id := 0) ?_
       refine o_p rfl rfl ?_
       refine ow_nil ?_)
    | (refine cw_region (id := 1) ?_
       refine o_r rfl (rd_build rfl build_none) ?_
       first | (refine o_c rfl rfl rfl en10 rfl (fun s hs => (bit_in _ _ _ (by omega) (by omega)).mono ?_); rintro e w' ⟨rfl, hb⟩; refine ⟨_, _, _, rfl, hs.grow hb, ?_⟩; clear hb hs w' s) | (refine o_c rfl rfl rfl en10 rfl (fun s hs => (bit_no _ _ _ (by omega)).mono ?_); rintro e w' ⟨rfl, hb⟩; refine ⟨_, _, _, rfl, hs.grow hb, ?_⟩; clear hb hs w' s)
       refine o_p rfl rfl ?_
       refine o_p rfl rfl ?_
       refine o_p rfl rfl ?_
       refine o_p rfl rfl ?_
       refine o_p rfl rfl ?_
       refine ow_nil ?_)
    | (refine cw_region (id := 2) ?_
       refine o_r rfl (rd_build rfl build_129) ?_
       first | (refine o_c rfl rfl rfl en11 rfl (fun s hs => (turn_in _ _ _ (by omega) (by omega)).mono ?_); rintro e w' ⟨rfl, hb⟩; refine ⟨_, _, _, rfl, hs.grow hb, ?_⟩; clear hb hs w' s) | (refine o_c rfl rfl rfl en11 rfl (fun s hs => (turn_no _ _ _ (by omega)).mono ?_); rintro e w' ⟨rfl, hb⟩; refine ⟨_, _, _, rfl, hs.grow hb, ?_⟩; clear hb hs w' s)
       refine o_p rfl rfl ?_
       refine o_p rfl rfl ?_
       refine o_p rfl rfl ?_
       first | (refine o_a rfl (al_alloc_agg zero23) (fun b3 fb3 => ?_); try simp only [fresh_iff, keysOf, List.map_cons, List.map_nil, List.forall_mem_cons, List.not_mem_nil, false_imp_iff, implies_true, and_true] at fb3) | (refine o_a rfl (al_alloc zero23) (fun b3 fb3 => ?_); try simp only [fresh_iff, keysOf, List.map_cons, List.map_nil, List.forall_mem_cons, List.not_mem_nil, false_imp_iff, implies_true, and_true] at fb3)
       first | refine o_w rfl (wr_store_all rfl rfl agg23 (by simp) (by simp) (by repeat (first | exact Upd.here | apply Upd.there)) (by simp)) ?_ | refine o_w rfl (wr_store_agg rfl rfl agg23 (by simp [Value.cells]) (by first | rfl | simp [Value.cells]) (by first | rfl | exact splice_all _ _ (by simp [Value.cells])) (by repeat (first | exact Upd.here | apply Upd.there)) (by simp [Value.cells])) ?_
       refine o_p rfl rfl ?_
       refine ow_nil ?_)
    | (refine cw_region (id := 3) ?_
       refine o_r rfl (rd_build rfl build_5) ?_
       first | (refine o_a rfl (al_alloc_agg zero23) (fun b5 fb5 => ?_); try simp only [fresh_iff, keysOf, List.map_cons, List.map_nil, List.forall_mem_cons, List.not_mem_nil, false_imp_iff, implies_true, and_true] at fb5) | (refine o_a rfl (al_alloc zero23) (fun b5 fb5 => ?_); try simp only [fresh_iff, keysOf, List.map_cons, List.map_nil, List.forall_mem_cons, List.not_mem_nil, false_imp_iff, implies_true, and_true] at fb5)
       first | refine o_w rfl (wr_store_all rfl rfl agg23 (by simp) (by simp) (by repeat (first | exact Upd.here | apply Upd.there)) (by simp)) ?_ | refine o_w rfl (wr_store_agg rfl rfl agg23 (by simp [Value.cells]) (by first | rfl | simp [Value.cells]) (by first | rfl | exact splice_all _ _ (by simp [Value.cells])) (by repeat (first | exact Upd.here | apply Upd.there)) (by simp [Value.cells])) ?_
       refine ow_nil ?_)
    | (refine cw_region (id := 4) ?_
       (refine o_c rfl rfl rfl en7 rfl (fun s hs => (alive_c _).mono ?_); rintro e w' ⟨rfl, hb⟩; refine ⟨_, _, _, rfl, hs.grow hb, ?_⟩; clear hb hs w' s)
       refine o_p rfl rfl ?_
       refine o_p rfl rfl ?_
       refine o_p rfl rfl ?_
       refine o_p rfl rfl ?_
       refine o_p rfl rfl ?_
       first | refine o_k rfl ?_ | refine o_p rfl rfl ?_
       first | refine o_k rfl ?_ | refine o_r rfl (r_cmp rfl rfl rfl (cmp_t (by omega))) ?_ | refine o_r rfl (r_cmp rfl rfl rfl (cmp_f (by omega))) ?_ | refine o_r rfl (r_cmp rfl rfl rfl rfl) ?_
       refine o_p rfl rfl ?_
       refine o_p rfl rfl ?_
       first | refine o_k rfl ?_ | refine o_r rfl (rd_load_all rfl (by repeat (first | exact List.Mem.head _ | apply List.Mem.tail)) agg23 (by simp)) ?_ | refine o_r rfl (rd_load_agg rfl (by repeat (first | exact List.Mem.head _ | apply List.Mem.tail)) agg23 (by simp [Value.cells]) (by first | rfl | simp [Value.cells])) ?_
       first | refine o_k rfl ?_ | refine o_r rfl (rd_load_all rfl (by repeat (first | exact List.Mem.head _ | apply List.Mem.tail)) agg23 (by simp)) ?_ | refine o_r rfl (rd_load_agg rfl (by repeat (first | exact List.Mem.head _ | apply List.Mem.tail)) agg23 (by simp [Value.cells]) (by first | rfl | simp [Value.cells])) ?_
       first | refine o_k rfl ?_ | (refine o_c rfl rfl rfl en9 rfl (fun s hs => (shared_c _ _ _).mono ?_); rintro e w' ⟨rfl, hb⟩; refine ⟨_, _, _, rfl, hs.grow hb, ?_⟩; clear hb hs w' s)
       first | refine o_k rfl ?_ | refine o_r rfl (r_cmp rfl rfl rfl (cmp_t (by omega))) ?_ | refine o_r rfl (r_cmp rfl rfl rfl (cmp_f (by omega))) ?_ | refine o_r rfl (r_cmp rfl rfl rfl rfl) ?_
       refine o_p rfl rfl ?_
       refine o_p rfl rfl ?_
       first | refine o_k rfl ?_ | refine o_r rfl (rd_build rfl build_127) ?_
       first | refine o_k rfl ?_ | refine o_r rfl (rd_build rfl build_128) ?_
       first | refine o_k rfl ?_ | (refine o_c rfl rfl rfl en8 rfl (fun s hs => (ahead_v _ (by assumption)).mono ?_); rintro e w' ⟨rfl, hb⟩; refine ⟨_, _, _, rfl, hs.grow hb, ?_⟩; clear hb hs w' s)
       refine o_p rfl rfl ?_
       refine o_p rfl rfl ?_
       first | refine o_k rfl ?_ | refine o_r rfl (rd_load_all rfl (by repeat (first | exact List.Mem.head _ | apply List.Mem.tail)) agg23 (by simp)) ?_ | refine o_r rfl (rd_load_agg rfl (by repeat (first | exact List.Mem.head _ | apply List.Mem.tail)) agg23 (by simp [Value.cells]) (by first | rfl | simp [Value.cells])) ?_
       first | refine o_k rfl ?_ | refine o_r rfl (rd_load_all rfl (by repeat (first | exact List.Mem.head _ | apply List.Mem.tail)) agg23 (by simp)) ?_ | refine o_r rfl (rd_load_agg rfl (by repeat (first | exact List.Mem.head _ | apply List.Mem.tail)) agg23 (by simp [Value.cells]) (by first | rfl | simp [Value.cells])) ?_
       first | refine o_k rfl ?_ | (refine o_c rfl rfl rfl en8 rfl (fun s hs => (ahead_v _ (by assumption)).mono ?_); rintro e w' ⟨rfl, hb⟩; refine ⟨_, _, _, rfl, hs.grow hb, ?_⟩; clear hb hs w' s)
       first | refine o_k rfl ?_ | refine o_p rfl rfl ?_
       refine o_p rfl rfl ?_
       refine o_p rfl rfl ?_
       first | refine o_k rfl ?_ | refine o_p rfl rfl ?_
       first | refine o_k rfl ?_ | refine o_r rfl (r_cmp rfl rfl rfl (cmp_t (by omega))) ?_ | refine o_r rfl (r_cmp rfl rfl rfl (cmp_f (by omega))) ?_ | refine o_r rfl (r_cmp rfl rfl rfl rfl) ?_
       refine o_p rfl rfl ?_
       refine o_p rfl rfl ?_
       first | refine o_k rfl ?_ | refine o_r rfl (rd_load_all rfl (by repeat (first | exact List.Mem.head _ | apply List.Mem.tail)) agg23 (by simp)) ?_ | refine o_r rfl (rd_load_agg rfl (by repeat (first | exact List.Mem.head _ | apply List.Mem.tail)) agg23 (by simp [Value.cells]) (by first | rfl | simp [Value.cells])) ?_
       first | refine o_k rfl ?_ | refine o_r rfl (rd_build rfl build_128) ?_
       first | refine o_k rfl ?_ | refine o_r rfl (rd_eql_agg eg23 rfl rfl (fun w => eqlt23 (by first | rfl | assumption) w)) ?_ | refine o_r rfl (rd_eql_agg eg23 rfl rfl (fun w => eqlf23 (by assumption) w)) ?_ | refine o_r rfl (rd_eql_agg eg23 rfl rfl (fun w => eql23 _ _ w)) ?_
       refine o_p rfl rfl ?_
       refine o_p rfl rfl ?_
       refine ow_nil ?_))
  exact fin1 (.inl rfl) rfl (res_tmp rfl) (fun v hv => ⟨rfl, hv.below (by simp) (by simp only [keysOf, List.map_cons, List.map_nil, List.forall_mem_cons, List.not_mem_nil, false_imp_iff, implies_true, and_true] <;> omega)⟩)
end Go.Proofs.Ytnlhkpdclnhneaa

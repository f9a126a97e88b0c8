import Derived.Test.YtnlhkpdclnhneaaPathD
namespace Go.Proofs.Ytnlhkpdclnhneaa
open Go.RowKit
attribute [local irreducible] Go.Calls
/-! digests of one byte -/
theorem build_5 (w : World) : (Instr.build 23 #[(0, .int .u8 5)]).run Try.prog w = .ok (.agg (dv (oneD 5))) w := by kernel_rfl
theorem build_127 (w : World) : (Instr.build 23 #[(0, .int .u8 127)]).run Try.prog w = .ok (.agg (dv (oneD 127))) w := by kernel_rfl
theorem build_128 (w : World) : (Instr.build 23 #[(0, .int .u8 128)]).run Try.prog w = .ok (.agg (dv (oneD 128))) w := by kernel_rfl
theorem build_129 (w : World) : (Instr.build 23 #[(0, .int .u8 129)]).run Try.prog w = .ok (.agg (dv (oneD 129))) w := by kernel_rfl
theorem build_192 (w : World) : (Instr.build 23 #[(0, .int .u8 192)]).run Try.prog w = .ok (.agg (dv (oneD 192))) w := by kernel_rfl
theorem ahead_v {a b : Dig} {v : Bool} (w : World) (h : aheadD a b = v) : Calls Try.prog 8 #[.agg (dv a), .agg (dv b)] w fun e w' => e = .returned (.bool v) ∧ Below w.heap.size w w' := by subst h; exact ahead_c a b w
theorem shared_v {a b : Dig} {v : Nat} (w : World) (h : sharedD a b = v) : Calls Try.prog 9 #[.agg (dv a), .agg (dv b)] w fun e w' => e = .returned (.int .i64 v) ∧ Below w.heap.size w w' := by subst h; exact shared_c a b w
/-! the statement PathTells -/
theorem tells_c (a b : Dig) (i : Int) (w : World) : Calls Try.prog 5 #[.agg (dv a), .agg (dv b), .int .i64 i] w fun e w' => e = .returned (.bool true) ∧ Below w.heap.size w w' := by
  have hbb : (aheadD a b == aheadD a b) = true := by simp
  rcases Classical.em (0 ≤ i ∧ i < 256) with ⟨h0, h1⟩ | h
  · refine enter Try.func5 rfl (Nat.le_of_ble_eq_true rfl) (kn0 w) (vs := [_, _, _]) (fr0 := [(0, _), (1, _), (2, _)]) rfl (n := 75) rfl ?_
    repeat (first
      | refine cw_seq ?_
      | refine cw_block ?_
      | refine cw_skip ?_
      | refine cw_label ?_
      | refine cw_exit ?_
      | refine cw_ret ?_
      | refine qw_then ?_
      | refine qw_block_normal ?_
      | refine qw_block_exit ?_
      | refine qw_block_other rfl ?_
      | refine qw_block_ret ?_
      | refine qw_then_ret ?_
      | refine qw_then_exit ?_
      | refine cw_true rfl ?_
      | refine cw_false rfl ?_
      | refine cw_scope ?_
      | refine qw_scope_normal ?_
      | refine qw_scope_ret ?_
      | refine qw_scope_exit ?_
      | (refine cw_region (id := 0) ?_
         first | (refine o_a rfl (al_box_agg rfl) (fun b3 fb3 => ?_); try simp only [fresh_iff, keysOf, List.map_cons, List.map_nil, List.forall_mem_cons, List.not_mem_nil, false_imp_iff, implies_true, and_true] at fb3) | (refine o_a rfl (al_box rfl) (fun b3 fb3 => ?_); try simp only [fresh_iff, keysOf, List.map_cons, List.map_nil, List.forall_mem_cons, List.not_mem_nil, false_imp_iff, implies_true, and_true] at fb3)
         first | (refine o_a rfl (al_box_agg rfl) (fun b4 fb4 => ?_); try simp only [fresh_iff, keysOf, List.map_cons, List.map_nil, List.forall_mem_cons, List.not_mem_nil, false_imp_iff, implies_true, and_true] at fb4) | (refine o_a rfl (al_box rfl) (fun b4 fb4 => ?_); try simp only [fresh_iff, keysOf, List.map_cons, List.map_nil, List.forall_mem_cons, List.not_mem_nil, false_imp_iff, implies_true, and_true] at fb4)
         refine o_p rfl rfl ?_
         refine ow_nil ?_)
      | (refine cw_region (id := 1) ?_
         first | refine o_r rfl (rd_load_all rfl (by repeat (first | exact List.Mem.head _ | apply List.Mem.tail)) agg23 (by simp)) ?_ | refine o_r rfl (rd_load_agg rfl (by repeat (first | exact List.Mem.head _ | apply List.Mem.tail)) agg23 (by simp [Value.cells]) (by first | rfl | simp [Value.cells])) ?_
         refine o_p rfl rfl ?_
         first | (refine o_c rfl rfl rfl en10 rfl (fun s hs => (bit_in _ _ _ (by omega) (by omega)).mono ?_); rintro e w' ⟨rfl, hb⟩; refine ⟨_, _, _, rfl, hs.grow hb, ?_⟩; clear hb hs w' s) | (refine o_c rfl rfl rfl en10 rfl (fun s hs => (bit_no _ _ _ (by omega)).mono ?_); rintro e w' ⟨rfl, hb⟩; refine ⟨_, _, _, rfl, hs.grow hb, ?_⟩; clear hb hs w' s)
         refine o_p rfl rfl ?_
         refine o_p rfl rfl ?_
         refine o_p rfl rfl ?_
         refine o_p rfl rfl ?_
         refine o_p rfl rfl ?_
         refine ow_nil ?_)
      | (refine cw_region (id := 2) ?_
         first | refine o_r rfl (rd_load_all rfl (by repeat (first | exact List.Mem.head _ | apply List.Mem.tail)) agg23 (by simp)) ?_ | refine o_r rfl (rd_load_agg rfl (by repeat (first | exact List.Mem.head _ | apply List.Mem.tail)) agg23 (by simp [Value.cells]) (by first | rfl | simp [Value.cells])) ?_
         refine o_p rfl rfl ?_
         first | (refine o_c rfl rfl rfl en12 rfl (fun s hs => (rbit_in _ _ _ (by omega) (by omega)).mono ?_); rintro e w' ⟨rfl, hb⟩; refine ⟨_, _, _, rfl, hs.grow hb, ?_⟩; clear hb hs w' s) | (refine o_c rfl rfl rfl en12 rfl (fun s hs => (rbit_no _ _ _ (by omega)).mono ?_); rintro e w' ⟨rfl, hb⟩; refine ⟨_, _, _, rfl, hs.grow hb, ?_⟩; clear hb hs w' s)
         refine o_p rfl rfl ?_
         refine o_p rfl rfl ?_
         refine o_p rfl rfl ?_
         refine o_p rfl rfl ?_
         refine o_p rfl rfl ?_
         refine ow_nil ?_)
      | (refine cw_region (id := 3) ?_
         first | refine o_r rfl (rd_load_all rfl (by repeat (first | exact List.Mem.head _ | apply List.Mem.tail)) agg23 (by simp)) ?_ | refine o_r rfl (rd_load_agg rfl (by repeat (first | exact List.Mem.head _ | apply List.Mem.tail)) agg23 (by simp [Value.cells]) (by first | rfl | simp [Value.cells])) ?_
         refine o_p rfl rfl ?_
         first | (refine o_c rfl rfl rfl en11 rfl (fun s hs => (turn_in _ _ _ (by omega) (by omega)).mono ?_); rintro e w' ⟨rfl, hb⟩; refine ⟨_, _, _, rfl, hs.grow hb, ?_⟩; clear hb hs w' s) | (refine o_c rfl rfl rfl en11 rfl (fun s hs => (turn_no _ _ _ (by omega)).mono ?_); rintro e w' ⟨rfl, hb⟩; refine ⟨_, _, _, rfl, hs.grow hb, ?_⟩; clear hb hs w' s)
         refine o_p rfl rfl ?_
         refine o_p rfl rfl ?_
         refine o_p rfl rfl ?_
         first | (refine o_a rfl (al_alloc_agg zero23) (fun b11 fb11 => ?_); try simp only [fresh_iff, keysOf, List.map_cons, List.map_nil, List.forall_mem_cons, List.not_mem_nil, false_imp_iff, implies_true, and_true] at fb11) | (refine o_a rfl (al_alloc zero23) (fun b11 fb11 => ?_); try simp only [fresh_iff, keysOf, List.map_cons, List.map_nil, List.forall_mem_cons, List.not_mem_nil, false_imp_iff, implies_true, and_true] at fb11)
         first | refine o_w rfl (wr_store_all rfl rfl agg23 (by simp) (by simp) (by repeat (first | exact Upd.here | apply Upd.there)) (by simp)) ?_ | refine o_w rfl (wr_store_agg rfl rfl agg23 (by simp [Value.cells]) (by first | rfl | simp [Value.cells]) (by first | rfl | exact splice_all _ _ (by simp [Value.cells])) (by repeat (first | exact Upd.here | apply Upd.there)) (by simp [Value.cells])) ?_
         refine o_p rfl rfl ?_
         refine ow_nil ?_)
      | (refine cw_region (id := 4) ?_
         first | refine o_r rfl (rd_load_all rfl (by repeat (first | exact List.Mem.head _ | apply List.Mem.tail)) agg23 (by simp)) ?_ | refine o_r rfl (rd_load_agg rfl (by repeat (first | exact List.Mem.head _ | apply List.Mem.tail)) agg23 (by simp [Value.cells]) (by first | rfl | simp [Value.cells])) ?_
         refine o_p rfl rfl ?_
         first | (refine o_c rfl rfl rfl en13 rfl (fun s hs => (rturn_in _ _ _ (by omega) (by omega)).mono ?_); rintro e w' ⟨rfl, hb⟩; refine ⟨_, _, _, rfl, hs.grow hb, ?_⟩; clear hb hs w' s) | (refine o_c rfl rfl rfl en13 rfl (fun s hs => (rturn_no _ _ _ (by omega)).mono ?_); rintro e w' ⟨rfl, hb⟩; refine ⟨_, _, _, rfl, hs.grow hb, ?_⟩; clear hb hs w' s)
         refine o_p rfl rfl ?_
         refine o_p rfl rfl ?_
         refine o_p rfl rfl ?_
         first | (refine o_a rfl (al_alloc_agg zero23) (fun b13 fb13 => ?_); try simp only [fresh_iff, keysOf, List.map_cons, List.map_nil, List.forall_mem_cons, List.not_mem_nil, false_imp_iff, implies_true, and_true] at fb13) | (refine o_a rfl (al_alloc zero23) (fun b13 fb13 => ?_); try simp only [fresh_iff, keysOf, List.map_cons, List.map_nil, List.forall_mem_cons, List.not_mem_nil, false_imp_iff, implies_true, and_true] at fb13)
         first | refine o_w rfl (wr_store_all rfl rfl agg23 (by simp) (by simp) (by repeat (first | exact Upd.here | apply Upd.there)) (by simp)) ?_ | refine o_w rfl (wr_store_agg rfl rfl agg23 (by simp [Value.cells]) (by first | rfl | simp [Value.cells]) (by first | rfl | exact splice_all _ _ (by simp [Value.cells])) (by repeat (first | exact Upd.here | apply Upd.there)) (by simp [Value.cells])) ?_
         refine o_p rfl rfl ?_
         refine ow_nil ?_)
      | (refine cw_flow (id := 5) 37 mixed (by kernel_rfl) ?_
         refine f_p rfl rfl ?_
         refine f_p rfl rfl ?_
         first | refine f_r rfl (r_cmp rfl rfl rfl (cmp_t (by omega))) ?_ | refine f_r rfl (r_cmp rfl rfl rfl (cmp_f (by omega))) ?_ | refine f_r rfl (r_cmp rfl rfl rfl rfl) ?_
         refine f_p rfl rfl ?_
         first | refine f_k rfl ?_ | refine f_p rfl rfl ?_
         first | refine f_k rfl ?_ | refine f_p rfl rfl ?_
         first | refine f_k rfl ?_ | refine f_r rfl (r_cmp rfl rfl rfl (cmp_t (by omega))) ?_ | refine f_r rfl (r_cmp rfl rfl rfl (cmp_f (by omega))) ?_ | refine f_r rfl (r_cmp rfl rfl rfl rfl) ?_
         refine f_p rfl rfl ?_
         refine f_p rfl rfl ?_
         first | refine f_k rfl ?_ | refine f_r rfl (rd_load_all rfl (by repeat (first | exact List.Mem.head _ | apply List.Mem.tail)) agg23 (by simp)) ?_ | refine f_r rfl (rd_load_agg rfl (by repeat (first | exact List.Mem.head _ | apply List.Mem.tail)) agg23 (by simp [Value.cells]) (by first | rfl | simp [Value.cells])) ?_
         first | refine f_k rfl ?_ | refine f_r rfl (rd_load_all rfl (by repeat (first | exact List.Mem.head _ | apply List.Mem.tail)) agg23 (by simp)) ?_ | refine f_r rfl (rd_load_agg rfl (by repeat (first | exact List.Mem.head _ | apply List.Mem.tail)) agg23 (by simp [Value.cells]) (by first | rfl | simp [Value.cells])) ?_
         first | refine f_k rfl ?_ | refine f_r rfl (rd_eql_agg eg23 rfl rfl (fun w => eqlt23 rfl w)) ?_
         refine f_p rfl rfl ?_
         refine f_p rfl rfl ?_
         first | refine f_k rfl ?_ | refine f_p rfl rfl ?_
         first | refine f_k rfl ?_ | refine f_p rfl rfl ?_
         first | refine f_k rfl ?_ | refine f_r rfl (r_cmp rfl rfl rfl (cmp_t (by omega))) ?_ | refine f_r rfl (r_cmp rfl rfl rfl (cmp_f (by omega))) ?_ | refine f_r rfl (r_cmp rfl rfl rfl rfl) ?_
         refine f_p rfl rfl ?_
         refine f_p rfl rfl ?_
         first | refine f_k rfl ?_ | refine f_r rfl (rd_load_all rfl (by repeat (first | exact List.Mem.head _ | apply List.Mem.tail)) agg23 (by simp)) ?_ | refine f_r rfl (rd_load_agg rfl (by repeat (first | exact List.Mem.head _ | apply List.Mem.tail)) agg23 (by simp [Value.cells]) (by first | rfl | simp [Value.cells])) ?_
         first | refine f_k rfl ?_ | refine f_r rfl (rd_load_all rfl (by repeat (first | exact List.Mem.head _ | apply List.Mem.tail)) agg23 (by simp)) ?_ | refine f_r rfl (rd_load_agg rfl (by repeat (first | exact List.Mem.head _ | apply List.Mem.tail)) agg23 (by simp [Value.cells]) (by first | rfl | simp [Value.cells])) ?_
         first | refine f_k rfl ?_ | refine f_c rfl rfl rfl en9 rfl (fun s hs => shared_c _ _ _) ?_
         first | refine f_k rfl ?_ | refine f_r rfl (rd_load_all rfl (by repeat (first | exact List.Mem.head _ | apply List.Mem.tail)) agg23 (by simp)) ?_ | refine f_r rfl (rd_load_agg rfl (by repeat (first | exact List.Mem.head _ | apply List.Mem.tail)) agg23 (by simp [Value.cells]) (by first | rfl | simp [Value.cells])) ?_
         first | refine f_k rfl ?_ | refine f_r rfl (rd_load_all rfl (by repeat (first | exact List.Mem.head _ | apply List.Mem.tail)) agg23 (by simp)) ?_ | refine f_r rfl (rd_load_agg rfl (by repeat (first | exact List.Mem.head _ | apply List.Mem.tail)) agg23 (by simp [Value.cells]) (by first | rfl | simp [Value.cells])) ?_
         first | refine f_k rfl ?_ | refine f_c rfl rfl rfl en14 rfl (fun s hs => rshared_c _ _ _) ?_
         first | refine f_k rfl ?_ | refine f_r rfl (r_cmp rfl rfl rfl (cmp_t (by omega))) ?_ | refine f_r rfl (r_cmp rfl rfl rfl (cmp_f (by omega))) ?_ | refine f_r rfl (r_cmp rfl rfl rfl rfl) ?_
         refine f_p rfl rfl ?_
         refine f_p rfl rfl ?_
         first | refine f_k rfl ?_ | refine f_r rfl (rd_load_all rfl (by repeat (first | exact List.Mem.head _ | apply List.Mem.tail)) agg23 (by simp)) ?_ | refine f_r rfl (rd_load_agg rfl (by repeat (first | exact List.Mem.head _ | apply List.Mem.tail)) agg23 (by simp [Value.cells]) (by first | rfl | simp [Value.cells])) ?_
         first | refine f_k rfl ?_ | refine f_r rfl (rd_load_all rfl (by repeat (first | exact List.Mem.head _ | apply List.Mem.tail)) agg23 (by simp)) ?_ | refine f_r rfl (rd_load_agg rfl (by repeat (first | exact List.Mem.head _ | apply List.Mem.tail)) agg23 (by simp [Value.cells]) (by first | rfl | simp [Value.cells])) ?_
         first | refine f_k rfl ?_ | refine f_c rfl rfl rfl en8 rfl (fun s hs => ahead_v _ (by assumption)) ?_ | refine f_c rfl rfl rfl en8 rfl (fun s hs => ahead_c _ _ _) ?_
         first | refine f_k rfl ?_ | refine f_r rfl (rd_load_all rfl (by repeat (first | exact List.Mem.head _ | apply List.Mem.tail)) agg23 (by simp)) ?_ | refine f_r rfl (rd_load_agg rfl (by repeat (first | exact List.Mem.head _ | apply List.Mem.tail)) agg23 (by simp [Value.cells]) (by first | rfl | simp [Value.cells])) ?_
         first | refine f_k rfl ?_ | refine f_r rfl (rd_load_all rfl (by repeat (first | exact List.Mem.head _ | apply List.Mem.tail)) agg23 (by simp)) ?_ | refine f_r rfl (rd_load_agg rfl (by repeat (first | exact List.Mem.head _ | apply List.Mem.tail)) agg23 (by simp [Value.cells]) (by first | rfl | simp [Value.cells])) ?_
         first | refine f_k rfl ?_ | refine f_c rfl rfl rfl en15 rfl (fun s hs => rahead_c _ _ _) ?_
         first | refine f_k rfl ?_ | refine f_r rfl (rd_eql_bool Try.underlying4 rfl rfl hbb) ?_
         refine f_p rfl rfl ?_
         refine f_p rfl rfl ?_
         refine f_end rfl ?_
         repeat (refine end_val ?_)
         refine end_nil ?_
         refine ow_nil ?_))
    exact fin1 (.inl rfl) rfl (res_tmp rfl) (fun v hv => ⟨rfl, hv.below (by simp) (by simp only [keysOf, List.map_cons, List.map_nil, List.forall_mem_cons, List.not_mem_nil, false_imp_iff, implies_true, and_true] <;> omega)⟩)
  · have h' : i < 0 ∨ 256 ≤ i := by omega
    clear h
    refine enter Try.func5 rfl (Nat.le_of_ble_eq_true rfl) (kn0 w) (vs := [_, _, _]) (fr0 := [(0, _), (1, _), (2, _)]) rfl (n := 75) rfl ?_
    repeat (first
      | refine cw_seq ?_
      | refine cw_block ?_
      | refine cw_skip ?_
      | refine cw_label ?_
      | refine cw_exit ?_
      | refine cw_ret ?_
      | refine qw_then ?_
      | refine qw_block_normal ?_
      | refine qw_block_exit ?_
      | refine qw_block_other rfl ?_
      | refine qw_block_ret ?_
      | refine qw_then_ret ?_
      | refine qw_then_exit ?_
      | refine cw_true rfl ?_
      | refine cw_false rfl ?_
      | refine cw_scope ?_
      | refine qw_scope_normal ?_
      | refine qw_scope_ret ?_
      | refine qw_scope_exit ?_
      | (refine cw_region (id := 0) ?_
         first | (refine o_a rfl (al_box_agg rfl) (fun b3 fb3 => ?_); try simp only [fresh_iff, keysOf, List.map_cons, List.map_nil, List.forall_mem_cons, List.not_mem_nil, false_imp_iff, implies_true, and_true] at fb3) | (refine o_a rfl (al_box rfl) (fun b3 fb3 => ?_); try simp only [fresh_iff, keysOf, List.map_cons, List.map_nil, List.forall_mem_cons, List.not_mem_nil, false_imp_iff, implies_true, and_true] at fb3)
         first | (refine o_a rfl (al_box_agg rfl) (fun b4 fb4 => ?_); try simp only [fresh_iff, keysOf, List.map_cons, List.map_nil, List.forall_mem_cons, List.not_mem_nil, false_imp_iff, implies_true, and_true] at fb4) | (refine o_a rfl (al_box rfl) (fun b4 fb4 => ?_); try simp only [fresh_iff, keysOf, List.map_cons, List.map_nil, List.forall_mem_cons, List.not_mem_nil, false_imp_iff, implies_true, and_true] at fb4)
         refine o_p rfl rfl ?_
         refine ow_nil ?_)
      | (refine cw_region (id := 1) ?_
         first | refine o_r rfl (rd_load_all rfl (by repeat (first | exact List.Mem.head _ | apply List.Mem.tail)) agg23 (by simp)) ?_ | refine o_r rfl (rd_load_agg rfl (by repeat (first | exact List.Mem.head _ | apply List.Mem.tail)) agg23 (by simp [Value.cells]) (by first | rfl | simp [Value.cells])) ?_
         refine o_p rfl rfl ?_
         first | (refine o_c rfl rfl rfl en10 rfl (fun s hs => (bit_in _ _ _ (by omega) (by omega)).mono ?_); rintro e w' ⟨rfl, hb⟩; refine ⟨_, _, _, rfl, hs.grow hb, ?_⟩; clear hb hs w' s) | (refine o_c rfl rfl rfl en10 rfl (fun s hs => (bit_no _ _ _ (by omega)).mono ?_); rintro e w' ⟨rfl, hb⟩; refine ⟨_, _, _, rfl, hs.grow hb, ?_⟩; clear hb hs w' s)
         refine o_p rfl rfl ?_
         refine o_p rfl rfl ?_
         refine o_p rfl rfl ?_
         refine o_p rfl rfl ?_
         refine o_p rfl rfl ?_
         refine ow_nil ?_)
      | (refine cw_region (id := 2) ?_
         first | refine o_r rfl (rd_load_all rfl (by repeat (first | exact List.Mem.head _ | apply List.Mem.tail)) agg23 (by simp)) ?_ | refine o_r rfl (rd_load_agg rfl (by repeat (first | exact List.Mem.head _ | apply List.Mem.tail)) agg23 (by simp [Value.cells]) (by first | rfl | simp [Value.cells])) ?_
         refine o_p rfl rfl ?_
         first | (refine o_c rfl rfl rfl en12 rfl (fun s hs => (rbit_in _ _ _ (by omega) (by omega)).mono ?_); rintro e w' ⟨rfl, hb⟩; refine ⟨_, _, _, rfl, hs.grow hb, ?_⟩; clear hb hs w' s) | (refine o_c rfl rfl rfl en12 rfl (fun s hs => (rbit_no _ _ _ (by omega)).mono ?_); rintro e w' ⟨rfl, hb⟩; refine ⟨_, _, _, rfl, hs.grow hb, ?_⟩; clear hb hs w' s)
         refine o_p rfl rfl ?_
         refine o_p rfl rfl ?_
         refine o_p rfl rfl ?_
         refine o_p rfl rfl ?_
         refine o_p rfl rfl ?_
         refine ow_nil ?_)
      | (refine cw_region (id := 3) ?_
         first | refine o_r rfl (rd_load_all rfl (by repeat (first | exact List.Mem.head _ | apply List.Mem.tail)) agg23 (by simp)) ?_ | refine o_r rfl (rd_load_agg rfl (by repeat (first | exact List.Mem.head _ | apply List.Mem.tail)) agg23 (by simp [Value.cells]) (by first | rfl | simp [Value.cells])) ?_
         refine o_p rfl rfl ?_
         first | (refine o_c rfl rfl rfl en11 rfl (fun s hs => (turn_in _ _ _ (by omega) (by omega)).mono ?_); rintro e w' ⟨rfl, hb⟩; refine ⟨_, _, _, rfl, hs.grow hb, ?_⟩; clear hb hs w' s) | (refine o_c rfl rfl rfl en11 rfl (fun s hs => (turn_no _ _ _ (by omega)).mono ?_); rintro e w' ⟨rfl, hb⟩; refine ⟨_, _, _, rfl, hs.grow hb, ?_⟩; clear hb hs w' s)
         refine o_p rfl rfl ?_
         refine o_p rfl rfl ?_
         refine o_p rfl rfl ?_
         first | (refine o_a rfl (al_alloc_agg zero23) (fun b11 fb11 => ?_); try simp only [fresh_iff, keysOf, List.map_cons, List.map_nil, List.forall_mem_cons, List.not_mem_nil, false_imp_iff, implies_true, and_true] at fb11) | (refine o_a rfl (al_alloc zero23) (fun b11 fb11 => ?_); try simp only [fresh_iff, keysOf, List.map_cons, List.map_nil, List.forall_mem_cons, List.not_mem_nil, false_imp_iff, implies_true, and_true] at fb11)
         first | refine o_w rfl (wr_store_all rfl rfl agg23 (by simp) (by simp) (by repeat (first | exact Upd.here | apply Upd.there)) (by simp)) ?_ | refine o_w rfl (wr_store_agg rfl rfl agg23 (by simp [Value.cells]) (by first | rfl | simp [Value.cells]) (by first | rfl | exact splice_all _ _ (by simp [Value.cells])) (by repeat (first | exact Upd.here | apply Upd.there)) (by simp [Value.cells])) ?_
         refine o_p rfl rfl ?_
         refine ow_nil ?_)
      | (refine cw_region (id := 4) ?_
         first | refine o_r rfl (rd_load_all rfl (by repeat (first | exact List.Mem.head _ | apply List.Mem.tail)) agg23 (by simp)) ?_ | refine o_r rfl (rd_load_agg rfl (by repeat (first | exact List.Mem.head _ | apply List.Mem.tail)) agg23 (by simp [Value.cells]) (by first | rfl | simp [Value.cells])) ?_
         refine o_p rfl rfl ?_
         first | (refine o_c rfl rfl rfl en13 rfl (fun s hs => (rturn_in _ _ _ (by omega) (by omega)).mono ?_); rintro e w' ⟨rfl, hb⟩; refine ⟨_, _, _, rfl, hs.grow hb, ?_⟩; clear hb hs w' s) | (refine o_c rfl rfl rfl en13 rfl (fun s hs => (rturn_no _ _ _ (by omega)).mono ?_); rintro e w' ⟨rfl, hb⟩; refine ⟨_, _, _, rfl, hs.grow hb, ?_⟩; clear hb hs w' s)
         refine o_p rfl rfl ?_
         refine o_p rfl rfl ?_
         refine o_p rfl rfl ?_
         first | (refine o_a rfl (al_alloc_agg zero23) (fun b13 fb13 => ?_); try simp only [fresh_iff, keysOf, List.map_cons, List.map_nil, List.forall_mem_cons, List.not_mem_nil, false_imp_iff, implies_true, and_true] at fb13) | (refine o_a rfl (al_alloc zero23) (fun b13 fb13 => ?_); try simp only [fresh_iff, keysOf, List.map_cons, List.map_nil, List.forall_mem_cons, List.not_mem_nil, false_imp_iff, implies_true, and_true] at fb13)
         first | refine o_w rfl (wr_store_all rfl rfl agg23 (by simp) (by simp) (by repeat (first | exact Upd.here | apply Upd.there)) (by simp)) ?_ | refine o_w rfl (wr_store_agg rfl rfl agg23 (by simp [Value.cells]) (by first | rfl | simp [Value.cells]) (by first | rfl | exact splice_all _ _ (by simp [Value.cells])) (by repeat (first | exact Upd.here | apply Upd.there)) (by simp [Value.cells])) ?_
         refine o_p rfl rfl ?_
         refine ow_nil ?_)
      | (refine cw_flow (id := 5) 37 mixed (by kernel_rfl) ?_
         refine f_p rfl rfl ?_
         refine f_p rfl rfl ?_
         first | refine f_r rfl (r_cmp rfl rfl rfl (cmp_t (by omega))) ?_ | refine f_r rfl (r_cmp rfl rfl rfl (cmp_f (by omega))) ?_ | refine f_r rfl (r_cmp rfl rfl rfl rfl) ?_
         refine f_p rfl rfl ?_
         first | refine f_k rfl ?_ | refine f_p rfl rfl ?_
         first | refine f_k rfl ?_ | refine f_p rfl rfl ?_
         first | refine f_k rfl ?_ | refine f_r rfl (r_cmp rfl rfl rfl (cmp_t (by omega))) ?_ | refine f_r rfl (r_cmp rfl rfl rfl (cmp_f (by omega))) ?_ | refine f_r rfl (r_cmp rfl rfl rfl rfl) ?_
         refine f_p rfl rfl ?_
         refine f_p rfl rfl ?_
         first | refine f_k rfl ?_ | refine f_r rfl (rd_load_all rfl (by repeat (first | exact List.Mem.head _ | apply List.Mem.tail)) agg23 (by simp)) ?_ | refine f_r rfl (rd_load_agg rfl (by repeat (first | exact List.Mem.head _ | apply List.Mem.tail)) agg23 (by simp [Value.cells]) (by first | rfl | simp [Value.cells])) ?_
         first | refine f_k rfl ?_ | refine f_r rfl (rd_load_all rfl (by repeat (first | exact List.Mem.head _ | apply List.Mem.tail)) agg23 (by simp)) ?_ | refine f_r rfl (rd_load_agg rfl (by repeat (first | exact List.Mem.head _ | apply List.Mem.tail)) agg23 (by simp [Value.cells]) (by first | rfl | simp [Value.cells])) ?_
         first | refine f_k rfl ?_ | refine f_r rfl (rd_eql_agg eg23 rfl rfl (fun w => eqlt23 rfl w)) ?_
         refine f_p rfl rfl ?_
         refine f_p rfl rfl ?_
         first | refine f_k rfl ?_ | refine f_p rfl rfl ?_
         first | refine f_k rfl ?_ | refine f_p rfl rfl ?_
         first | refine f_k rfl ?_ | refine f_r rfl (r_cmp rfl rfl rfl (cmp_t (by omega))) ?_ | refine f_r rfl (r_cmp rfl rfl rfl (cmp_f (by omega))) ?_ | refine f_r rfl (r_cmp rfl rfl rfl rfl) ?_
         refine f_p rfl rfl ?_
         refine f_p rfl rfl ?_
         first | refine f_k rfl ?_ | refine f_r rfl (rd_load_all rfl (by repeat (first | exact List.Mem.head _ | apply List.Mem.tail)) agg23 (by simp)) ?_ | refine f_r rfl (rd_load_agg rfl (by repeat (first | exact List.Mem.head _ | apply List.Mem.tail)) agg23 (by simp [Value.cells]) (by first | rfl | simp [Value.cells])) ?_
         first | refine f_k rfl ?_ | refine f_r rfl (rd_load_all rfl (by repeat (first | exact List.Mem.head _ | apply List.Mem.tail)) agg23 (by simp)) ?_ | refine f_r rfl (rd_load_agg rfl (by repeat (first | exact List.Mem.head _ | apply List.Mem.tail)) agg23 (by simp [Value.cells]) (by first | rfl | simp [Value.cells])) ?_
         first | refine f_k rfl ?_ | refine f_c rfl rfl rfl en9 rfl (fun s hs => shared_c _ _ _) ?_
         first | refine f_k rfl ?_ | refine f_r rfl (rd_load_all rfl (by repeat (first | exact List.Mem.head _ | apply List.Mem.tail)) agg23 (by simp)) ?_ | refine f_r rfl (rd_load_agg rfl (by repeat (first | exact List.Mem.head _ | apply List.Mem.tail)) agg23 (by simp [Value.cells]) (by first | rfl | simp [Value.cells])) ?_
         first | refine f_k rfl ?_ | refine f_r rfl (rd_load_all rfl (by repeat (first | exact List.Mem.head _ | apply List.Mem.tail)) agg23 (by simp)) ?_ | refine f_r rfl (rd_load_agg rfl (by repeat (first | exact List.Mem.head _ | apply List.Mem.tail)) agg23 (by simp [Value.cells]) (by first | rfl | simp [Value.cells])) ?_
         first | refine f_k rfl ?_ | refine f_c rfl rfl rfl en14 rfl (fun s hs => rshared_c _ _ _) ?_
         first | refine f_k rfl ?_ | refine f_r rfl (r_cmp rfl rfl rfl (cmp_t (by omega))) ?_ | refine f_r rfl (r_cmp rfl rfl rfl (cmp_f (by omega))) ?_ | refine f_r rfl (r_cmp rfl rfl rfl rfl) ?_
         refine f_p rfl rfl ?_
         refine f_p rfl rfl ?_
         first | refine f_k rfl ?_ | refine f_r rfl (rd_load_all rfl (by repeat (first | exact List.Mem.head _ | apply List.Mem.tail)) agg23 (by simp)) ?_ | refine f_r rfl (rd_load_agg rfl (by repeat (first | exact List.Mem.head _ | apply List.Mem.tail)) agg23 (by simp [Value.cells]) (by first | rfl | simp [Value.cells])) ?_
         first | refine f_k rfl ?_ | refine f_r rfl (rd_load_all rfl (by repeat (first | exact List.Mem.head _ | apply List.Mem.tail)) agg23 (by simp)) ?_ | refine f_r rfl (rd_load_agg rfl (by repeat (first | exact List.Mem.head _ | apply List.Mem.tail)) agg23 (by simp [Value.cells]) (by first | rfl | simp [Value.cells])) ?_
         first | refine f_k rfl ?_ | refine f_c rfl rfl rfl en8 rfl (fun s hs => ahead_v _ (by assumption)) ?_ | refine f_c rfl rfl rfl en8 rfl (fun s hs => ahead_c _ _ _) ?_
         first | refine f_k rfl ?_ | refine f_r rfl (rd_load_all rfl (by repeat (first | exact List.Mem.head _ | apply List.Mem.tail)) agg23 (by simp)) ?_ | refine f_r rfl (rd_load_agg rfl (by repeat (first | exact List.Mem.head _ | apply List.Mem.tail)) agg23 (by simp [Value.cells]) (by first | rfl | simp [Value.cells])) ?_
         first | refine f_k rfl ?_ | refine f_r rfl (rd_load_all rfl (by repeat (first | exact List.Mem.head _ | apply List.Mem.tail)) agg23 (by simp)) ?_ | refine f_r rfl (rd_load_agg rfl (by repeat (first | exact List.Mem.head _ | apply List.Mem.tail)) agg23 (by simp [Value.cells]) (by first | rfl | simp [Value.cells])) ?_
         first | refine f_k rfl ?_ | refine f_c rfl rfl rfl en15 rfl (fun s hs => rahead_c _ _ _) ?_
         first | refine f_k rfl ?_ | refine f_r rfl (rd_eql_bool Try.underlying4 rfl rfl hbb) ?_
         refine f_p rfl rfl ?_
         refine f_p rfl rfl ?_
         refine f_end rfl ?_
         repeat (refine end_val ?_)
         refine end_nil ?_
         refine ow_nil ?_))
    exact fin1 (.inl rfl) rfl (res_tmp rfl) (fun v hv => ⟨rfl, hv.below (by simp) (by simp only [keysOf, List.map_cons, List.map_nil, List.forall_mem_cons, List.not_mem_nil, false_imp_iff, implies_true, and_true] <;> omega)⟩)
end Go.Proofs.Ytnlhkpdclnhneaa

import Derived.Test.YtnlhkpdclnhneaaBit
namespace Go.Proofs.Ytnlhkpdclnhneaa
open Go.RowKit
attribute [local irreducible] Go.Calls
/-! digests: closed facts -/
theorem zero23 : (Try.prog.info? 23).bind (·.zero) = some (.agg (dv zeroD)) := by kernel_rfl
theorem szu8 : ∀ w, (sizeOf 5).run Try.prog w = .ok 1 w := fun w => run_sizeOf' sz5 w
theorem eql23 (a b : Dig) (w : World) : (Op.equalIn 10000 23 (.agg (dv a)) (.agg (dv b))).run Try.prog w = .ok (decide (a = b)) w := eql_dig Try.underlying23 Try.underlying5 szu8 a b w
theorem eqlt23 {a b : Dig} (h : a = b) (w : World) : (Op.equalIn 10000 23 (.agg (dv a)) (.agg (dv b))).run Try.prog w = .ok true w := by rw [eql23, decide_eq_true h]
theorem eqlf23 {a b : Dig} (h : ¬ a = b) (w : World) : (Op.equalIn 10000 23 (.agg (dv a)) (.agg (dv b))).run Try.prog w = .ok false w := by rw [eql23, decide_eq_false h]
theorem build_none (w : World) : (Instr.build 23 (#[] : Array (Nat × Value))).run Try.prog w = .ok (.agg (dv zeroD)) w := by kernel_rfl
/-- the digest of one byte ahead -/
@[irreducible] def oneD (b : UInt8) : Dig := setD zeroD 0 b

/-! bytes -/
theorem xor_u8 (m n : Nat) (hm : m ≤ 255) (hn : n ≤ 255) : IntKind.u8.wrap (((((m : Int) % 2 ^ IntKind.u8.bits).toNat ^^^ ((n : Int) % 2 ^ IntKind.u8.bits).toNat : Nat)) : Int) = ((m ^^^ n : Nat) : Int) := by
  have e1 : (((m : Int) % 2 ^ IntKind.u8.bits).toNat) = m := by show ((m : Int) % 2 ^ 8).toNat = _; omega
  have e2 : (((n : Int) % 2 ^ IntKind.u8.bits).toNat) = n := by show ((n : Int) % 2 ^ 8).toNat = _; omega
  rw [e1, e2]
  have : m ^^^ n < 2 ^ 8 := Nat.xor_lt_two_pow (by omega) (by omega)
  exact IntWalk.u8_in _ (by omega)
theorem xor_le (m n : Nat) (hm : m ≤ 255) (hn : n ≤ 255) : m ^^^ n ≤ 255 := by
  have : m ^^^ n < 2 ^ 8 := Nat.xor_lt_two_pow (by omega) (by omega)
  omega
theorem shr128 (n : Int) (hn : 0 ≤ n) (hn7 : n ≤ 7) : (128 : Int).fdiv (2 ^ min n.toNat IntKind.u8.bits) = ((2 ^ (7 - n.toNat) : Nat) : Int) := by
  rw [shr_u8 128 n (by omega) hn (by omega)]
  obtain ⟨m, rfl⟩ := Int.eq_ofNat_of_zero_le hn
  simp only [Int.toNat_natCast]
  have : m ≤ 7 := by omega
  have h : ∀ m, m ≤ 7 → (128 : Int) / 2 ^ m = ((2 ^ (7 - m) : Nat) : Int) := by decide
  exact h m this
theorem pow_le (n : Nat) : 2 ^ (7 - n) ≤ 255 := by
  have h : ∀ m, m ≤ 7 → 2 ^ m ≤ 255 := by decide
  exact h _ (by omega)

/-! a bit turned -/
@[irreducible] def turnM (k : Dig) (i : Nat) : Dig := setD k (i / 8) (UInt8.ofNat (kn k (i / 8) ^^^ 2 ^ (7 - i % 8)))
theorem turn_in (k : Dig) (i : Int) (w : World) (h0 : 0 ≤ i) (h1 : i < 256) :
    Calls Try.prog 11 #[.agg (dv k), .int .i64 i] w fun e w' => e = .returned (.tuple #[.agg (dv (turnM k i.toNat)), .int .i64 0]) ∧ Below w.heap.size w w' := by
  have hg := dv_get k (i := (i/8).toNat) (by omega)
  have hle := kn_le k ((i / 8).toNat)
  have hp := pow_le (i % 8).toNat
  have hset : setD k (i / 8).toNat (UInt8.ofNat ((kn k (i / 8).toNat ^^^ 2 ^ (7 - (i % 8).toNat) : Nat) : Int).toNat) = turnM k i.toNat := by
    rw [Int.toNat_natCast]
    unfold turnM
    rw [show (i / 8).toNat = i.toNat / 8 from by omega, show (i % 8).toNat = i.toNat % 8 from by omega]
  have hx := xor_le _ _ hle hp
  refine enter Try.func11 rfl (Nat.le_of_ble_eq_true rfl) (kn0 w) (vs := [_, _]) (fr0 := [(0, _), (1, _)]) rfl (n := 23) rfl ?_
  repeat (first
    | refine cw_seq ?_
    | refine cw_block ?_
    | refine cw_skip ?_
    | refine cw_label ?_
    | refine cw_exit ?_
    | refine cw_ret ?_
    | refine qw_then ?_
    | refine qw_block_normal ?_
    | refine qw_block_exit ?_
    | refine qw_block_other rfl ?_
    | refine qw_block_ret ?_
    | refine qw_then_ret ?_
    | refine qw_then_exit ?_
    | refine cw_true rfl ?_
    | refine cw_false rfl ?_
    | refine cw_scope ?_
    | refine qw_scope_normal ?_
    | refine qw_scope_ret ?_
    | refine qw_scope_exit ?_
    | (refine cw_region (id := 0) ?_
       first | (refine o_a rfl (al_box_agg rfl) (fun b2 fb2 => ?_); try simp only [fresh_iff, keysOf, List.map_cons, List.map_nil, List.forall_mem_cons, List.not_mem_nil, false_imp_iff, implies_true, and_true] at fb2) | (refine o_a rfl (al_box rfl) (fun b2 fb2 => ?_); try simp only [fresh_iff, keysOf, List.map_cons, List.map_nil, List.forall_mem_cons, List.not_mem_nil, false_imp_iff, implies_true, and_true] at fb2)
       first | (refine o_a rfl (al_alloc_agg zero23) (fun b4 fb4 => ?_); try simp only [fresh_iff, keysOf, List.map_cons, List.map_nil, List.forall_mem_cons, List.not_mem_nil, false_imp_iff, implies_true, and_true] at fb4) | (refine o_a rfl (al_alloc zero23) (fun b4 fb4 => ?_); try simp only [fresh_iff, keysOf, List.map_cons, List.map_nil, List.forall_mem_cons, List.not_mem_nil, false_imp_iff, implies_true, and_true] at fb4)
       refine o_p rfl rfl ?_
       refine ow_nil ?_)
    | (refine cw_region (id := 1) ?_
       refine o_p rfl rfl ?_
       first | refine o_r rfl (r_cmp rfl rfl rfl (cmp_t (by omega))) ?_ | refine o_r rfl (r_cmp rfl rfl rfl (cmp_f (by omega))) ?_ | refine o_r rfl (r_cmp rfl rfl rfl rfl) ?_
       refine o_p rfl rfl ?_
       first | refine o_k rfl ?_ | refine o_p rfl rfl ?_
       first | refine o_k rfl ?_ | refine o_r rfl (r_cmp rfl rfl rfl (cmp_t (by omega))) ?_ | refine o_r rfl (r_cmp rfl rfl rfl (cmp_f (by omega))) ?_ | refine o_r rfl (r_cmp rfl rfl rfl rfl) ?_
       refine o_p rfl rfl ?_
       refine ow_nil ?_)
    | (refine cw_region (id := 2) ?_
       refine o_r rfl (rd_build (by first | exact build23 | exact rfl)) ?_
       first | refine o_w rfl (wr_store_all rfl rfl agg23 (by simp) (by simp) (by repeat (first | exact Upd.here | apply Upd.there)) (by simp)) ?_ | refine o_w rfl (wr_store_agg rfl rfl agg23 (by simp [Value.cells]) (by first | rfl | simp [Value.cells]) (by first | rfl | exact splice_all _ _ (by simp [Value.cells])) (by repeat (first | exact Upd.here | apply Upd.there)) (by simp [Value.cells])) ?_
       refine o_p rfl rfl ?_
       refine ow_nil ?_)
    | (refine cw_region (id := 4) ?_
       first | refine o_r rfl (rd_load_all rfl (by repeat (first | exact List.Mem.head _ | apply List.Mem.tail)) agg23 (by simp)) ?_ | refine o_r rfl (rd_load_agg rfl (by repeat (first | exact List.Mem.head _ | apply List.Mem.tail)) agg23 (by simp [Value.cells]) (by first | rfl | simp [Value.cells])) ?_
       first | refine o_w rfl (wr_store_all rfl rfl agg23 (by simp) (by simp) (by repeat (first | exact Upd.here | apply Upd.there)) (by simp)) ?_ | refine o_w rfl (wr_store_agg rfl rfl agg23 (by simp [Value.cells]) (by first | rfl | simp [Value.cells]) (by first | rfl | exact splice_all _ _ (by simp [Value.cells])) (by repeat (first | exact Upd.here | apply Upd.there)) (by simp [Value.cells])) ?_
       refine o_p rfl rfl ?_
       refine ow_nil ?_))
  refine cw_flow (id := 3) 9 mixed (by kernel_rfl) ?_
  refine f_p rfl rfl ?_
  first | refine f_r rfl (rd_quo rfl rfl (by omega) (IntWalk.i64_quo _ _ (by omega))) ?_ | refine f_r rfl (rd_quo rfl rfl (by omega) rfl) ?_
  first | refine f_r rfl (rd_indexAddr_arr Try.underlying23 sz5 rfl rfl (by omega) (by omega) (by rw [Nat.zero_add, Nat.mul_one])) ?_ | refine f_r rfl (rd_indexAddr_arr Try.underlying23 sz5 rfl rfl (by omega) (by omega) (by rw [Nat.zero_add])) ?_ | refine f_r rfl (rd_indexAddr_arr Try.underlying23 sz5 rfl rfl (by omega) (by omega) rfl) ?_
  refine f_r rfl (rd_load rfl (by repeat (first | exact List.Mem.head _ | apply List.Mem.tail)) one5 (by first | rfl | assumption)) ?_
  refine f_p rfl rfl ?_
  first | refine f_r rfl (rd_rem rfl rfl (by omega) (IntWalk.rem_in _ _ (by omega))) ?_ | refine f_r rfl (rd_rem rfl rfl (by omega) rfl) ?_
  refine f_r rfl (rd_shr rfl rfl (by omega) (shr128 _ (by omega) (by omega))) ?_
  refine f_r rfl (rd_xor rfl rfl (xor_u8 _ _ hle hp)) ?_
  first | refine f_r rfl (rd_indexAddr_arr Try.underlying23 sz5 rfl rfl (by omega) (by omega) (by rw [Nat.zero_add, Nat.mul_one])) ?_ | refine f_r rfl (rd_indexAddr_arr Try.underlying23 sz5 rfl rfl (by omega) (by omega) (by rw [Nat.zero_add])) ?_ | refine f_r rfl (rd_indexAddr_arr Try.underlying23 sz5 rfl rfl (by omega) (by omega) rfl) ?_
  refine f_end rfl ?_
  repeat (refine end_val ?_)
  refine end_nil ?_
  refine o_w rfl (wr_store_dig rfl rfl sz5 (by omega) (by omega) (by repeat (first | exact Upd.here | apply Upd.there)) (by omega)) ?_
  refine ow_nil ?_
  rw [hset]
  repeat (first
    | refine cw_seq ?_
    | refine cw_block ?_
    | refine cw_skip ?_
    | refine cw_label ?_
    | refine cw_exit ?_
    | refine cw_ret ?_
    | refine qw_then ?_
    | refine qw_block_normal ?_
    | refine qw_block_exit ?_
    | refine qw_block_other rfl ?_
    | refine qw_block_ret ?_
    | refine qw_then_ret ?_
    | refine qw_then_exit ?_
    | refine cw_true rfl ?_
    | refine cw_false rfl ?_
    | refine cw_scope ?_
    | refine qw_scope_normal ?_
    | refine qw_scope_ret ?_
    | refine qw_scope_exit ?_
    | (refine cw_region (id := 0) ?_
       first | (refine o_a rfl (al_box_agg rfl) (fun b2 fb2 => ?_); try simp only [fresh_iff, keysOf, List.map_cons, List.map_nil, List.forall_mem_cons, List.not_mem_nil, false_imp_iff, implies_true, and_true] at fb2) | (refine o_a rfl (al_box rfl) (fun b2 fb2 => ?_); try simp only [fresh_iff, keysOf, List.map_cons, List.map_nil, List.forall_mem_cons, List.not_mem_nil, false_imp_iff, implies_true, and_true] at fb2)
       first | (refine o_a rfl (al_alloc_agg zero23) (fun b4 fb4 => ?_); try simp only [fresh_iff, keysOf, List.map_cons, List.map_nil, List.forall_mem_cons, List.not_mem_nil, false_imp_iff, implies_true, and_true] at fb4) | (refine o_a rfl (al_alloc zero23) (fun b4 fb4 => ?_); try simp only [fresh_iff, keysOf, List.map_cons, List.map_nil, List.forall_mem_cons, List.not_mem_nil, false_imp_iff, implies_true, and_true] at fb4)
       refine o_p rfl rfl ?_
       refine ow_nil ?_)
    | (refine cw_region (id := 1) ?_
       refine o_p rfl rfl ?_
       first | refine o_r rfl (r_cmp rfl rfl rfl (cmp_t (by omega))) ?_ | refine o_r rfl (r_cmp rfl rfl rfl (cmp_f (by omega))) ?_ | refine o_r rfl (r_cmp rfl rfl rfl rfl) ?_
       refine o_p rfl rfl ?_
       first | refine o_k rfl ?_ | refine o_p rfl rfl ?_
       first | refine o_k rfl ?_ | refine o_r rfl (r_cmp rfl rfl rfl (cmp_t (by omega))) ?_ | refine o_r rfl (r_cmp rfl rfl rfl (cmp_f (by omega))) ?_ | refine o_r rfl (r_cmp rfl rfl rfl rfl) ?_
       refine o_p rfl rfl ?_
       refine ow_nil ?_)
    | (refine cw_region (id := 2) ?_
       refine o_r rfl (rd_build (by first | exact build23 | exact rfl)) ?_
       first | refine o_w rfl (wr_store_all rfl rfl agg23 (by simp) (by simp) (by repeat (first | exact Upd.here | apply Upd.there)) (by simp)) ?_ | refine o_w rfl (wr_store_agg rfl rfl agg23 (by simp [Value.cells]) (by first | rfl | simp [Value.cells]) (by first | rfl | exact splice_all _ _ (by simp [Value.cells])) (by repeat (first | exact Upd.here | apply Upd.there)) (by simp [Value.cells])) ?_
       refine o_p rfl rfl ?_
       refine ow_nil ?_)
    | (refine cw_flow (id := 3) 9 mixed (by kernel_rfl) ?_
       refine f_p rfl rfl ?_
       first | refine f_r rfl (rd_quo rfl rfl (by omega) (IntWalk.i64_quo _ _ (by omega))) ?_ | refine f_r rfl (rd_quo rfl rfl (by omega) rfl) ?_
       first | refine f_r rfl (rd_indexAddr_arr Try.underlying23 sz5 rfl rfl (by omega) (by omega) (by rw [Nat.zero_add, Nat.mul_one])) ?_ | refine f_r rfl (rd_indexAddr_arr Try.underlying23 sz5 rfl rfl (by omega) (by omega) (by rw [Nat.zero_add])) ?_ | refine f_r rfl (rd_indexAddr_arr Try.underlying23 sz5 rfl rfl (by omega) (by omega) rfl) ?_
       refine f_r rfl (rd_load rfl (by repeat (first | exact List.Mem.head _ | apply List.Mem.tail)) one5 (by first | rfl | assumption)) ?_
       refine f_p rfl rfl ?_
       first | refine f_r rfl (rd_rem rfl rfl (by omega) (IntWalk.rem_in _ _ (by omega))) ?_ | refine f_r rfl (rd_rem rfl rfl (by omega) rfl) ?_
       refine f_r rfl (rd_shr rfl rfl (by omega) rfl) ?_
       refine f_r rfl (rd_xor rfl rfl rfl) ?_
       first | refine f_r rfl (rd_indexAddr_arr Try.underlying23 sz5 rfl rfl (by omega) (by omega) (by rw [Nat.zero_add, Nat.mul_one])) ?_ | refine f_r rfl (rd_indexAddr_arr Try.underlying23 sz5 rfl rfl (by omega) (by omega) (by rw [Nat.zero_add])) ?_ | refine f_r rfl (rd_indexAddr_arr Try.underlying23 sz5 rfl rfl (by omega) (by omega) rfl) ?_
       refine f_end rfl ?_
       repeat (refine end_val ?_)
       refine end_nil ?_
       refine o_w rfl (wr_store rfl rfl sz5 rfl (by repeat (first | exact Upd.here | apply Upd.there)) (by simp [Value.cells])) ?_
       refine ow_nil ?_)
    | (refine cw_region (id := 4) ?_
       first | refine o_r rfl (rd_load_all rfl (by repeat (first | exact List.Mem.head _ | apply List.Mem.tail)) agg23 (by simp)) ?_ | refine o_r rfl (rd_load_agg rfl (by repeat (first | exact List.Mem.head _ | apply List.Mem.tail)) agg23 (by simp [Value.cells]) (by first | rfl | simp [Value.cells])) ?_
       first | refine o_w rfl (wr_store_all rfl rfl agg23 (by simp) (by simp) (by repeat (first | exact Upd.here | apply Upd.there)) (by simp)) ?_ | refine o_w rfl (wr_store_agg rfl rfl agg23 (by simp [Value.cells]) (by first | rfl | simp [Value.cells]) (by first | rfl | exact splice_all _ _ (by simp [Value.cells])) (by repeat (first | exact Upd.here | apply Upd.there)) (by simp [Value.cells])) ?_
       refine o_p rfl rfl ?_
       refine ow_nil ?_))
  exact fin2 (.inl rfl) rfl (res_cell_agg rfl (by repeat (first | exact List.Mem.head _ | apply List.Mem.tail)) agg23 (by simp [Value.cells]) (dv_ext _)) (res_tmp rfl) (fun v hv => ⟨rfl, hv.below (by simp) (by simp only [keysOf, List.map_cons, List.map_nil, List.forall_mem_cons, List.not_mem_nil, false_imp_iff, implies_true, and_true] <;> omega)⟩)
theorem turn_no (k : Dig) (i : Int) (w : World) (h : i < 0 ∨ 256 ≤ i) :
    Calls Try.prog 11 #[.agg (dv k), .int .i64 i] w fun e w' => e = .returned (.tuple #[.agg (dv zeroD), .int .i64 2]) ∧ Below w.heap.size w w' := by
  rcases h with h | h
  all_goals
    refine enter Try.func11 rfl (Nat.le_of_ble_eq_true rfl) (kn0 w) (vs := [_, _]) (fr0 := [(0, _), (1, _)]) rfl (n := 23) rfl ?_
    repeat (first
      | refine cw_seq ?_
      | refine cw_block ?_
      | refine cw_skip ?_
      | refine cw_label ?_
      | refine cw_exit ?_
      | refine cw_ret ?_
      | refine qw_then ?_
      | refine qw_block_normal ?_
      | refine qw_block_exit ?_
      | refine qw_block_other rfl ?_
      | refine qw_block_ret ?_
      | refine qw_then_ret ?_
      | refine qw_then_exit ?_
      | refine cw_true rfl ?_
      | refine cw_false rfl ?_
      | refine cw_scope ?_
      | refine qw_scope_normal ?_
      | refine qw_scope_ret ?_
      | refine qw_scope_exit ?_
      | (refine cw_region (id := 0) ?_
         first | (refine o_a rfl (al_box_agg rfl) (fun b2 fb2 => ?_); try simp only [fresh_iff, keysOf, List.map_cons, List.map_nil, List.forall_mem_cons, List.not_mem_nil, false_imp_iff, implies_true, and_true] at fb2) | (refine o_a rfl (al_box rfl) (fun b2 fb2 => ?_); try simp only [fresh_iff, keysOf, List.map_cons, List.map_nil, List.forall_mem_cons, List.not_mem_nil, false_imp_iff, implies_true, and_true] at fb2)
         first | (refine o_a rfl (al_alloc_agg zero23) (fun b4 fb4 => ?_); try simp only [fresh_iff, keysOf, List.map_cons, List.map_nil, List.forall_mem_cons, List.not_mem_nil, false_imp_iff, implies_true, and_true] at fb4) | (refine o_a rfl (al_alloc zero23) (fun b4 fb4 => ?_); try simp only [fresh_iff, keysOf, List.map_cons, List.map_nil, List.forall_mem_cons, List.not_mem_nil, false_imp_iff, implies_true, and_true] at fb4)
         refine o_p rfl rfl ?_
         refine ow_nil ?_)
      | (refine cw_region (id := 1) ?_
         refine o_p rfl rfl ?_
         first | refine o_r rfl (r_cmp rfl rfl rfl (cmp_t (by omega))) ?_ | refine o_r rfl (r_cmp rfl rfl rfl (cmp_f (by omega))) ?_ | refine o_r rfl (r_cmp rfl rfl rfl rfl) ?_
         refine o_p rfl rfl ?_
         first | refine o_k rfl ?_ | refine o_p rfl rfl ?_
         first | refine o_k rfl ?_ | refine o_r rfl (r_cmp rfl rfl rfl (cmp_t (by omega))) ?_ | refine o_r rfl (r_cmp rfl rfl rfl (cmp_f (by omega))) ?_ | refine o_r rfl (r_cmp rfl rfl rfl rfl) ?_
         refine o_p rfl rfl ?_
         refine ow_nil ?_)
      | (refine cw_region (id := 2) ?_
         refine o_r rfl (rd_build rfl build_none) ?_
         first | refine o_w rfl (wr_store_all rfl rfl agg23 (by simp) (by simp) (by repeat (first | exact Upd.here | apply Upd.there)) (by simp)) ?_ | refine o_w rfl (wr_store_agg rfl rfl agg23 (by simp [Value.cells]) (by first | rfl | simp [Value.cells]) (by first | rfl | exact splice_all _ _ (by simp [Value.cells])) (by repeat (first | exact Upd.here | apply Upd.there)) (by simp [Value.cells])) ?_
         refine o_p rfl rfl ?_
         refine ow_nil ?_)
      | (refine cw_flow (id := 3) 9 mixed (by kernel_rfl) ?_
         refine f_p rfl rfl ?_
         first | refine f_r rfl (rd_quo rfl rfl (by omega) (IntWalk.i64_quo _ _ (by omega))) ?_ | refine f_r rfl (rd_quo rfl rfl (by omega) rfl) ?_
         first | refine f_r rfl (rd_indexAddr_arr Try.underlying23 sz5 rfl rfl (by omega) (by omega) (by rw [Nat.zero_add, Nat.mul_one])) ?_ | refine f_r rfl (rd_indexAddr_arr Try.underlying23 sz5 rfl rfl (by omega) (by omega) (by rw [Nat.zero_add])) ?_ | refine f_r rfl (rd_indexAddr_arr Try.underlying23 sz5 rfl rfl (by omega) (by omega) rfl) ?_
         refine f_r rfl (rd_load rfl (by repeat (first | exact List.Mem.head _ | apply List.Mem.tail)) one5 (by first | rfl | assumption)) ?_
         refine f_p rfl rfl ?_
         first | refine f_r rfl (rd_rem rfl rfl (by omega) (IntWalk.rem_in _ _ (by omega))) ?_ | refine f_r rfl (rd_rem rfl rfl (by omega) rfl) ?_
         refine f_r rfl (rd_shr rfl rfl (by omega) rfl) ?_
         refine f_r rfl (rd_xor rfl rfl rfl) ?_
         first | refine f_r rfl (rd_indexAddr_arr Try.underlying23 sz5 rfl rfl (by omega) (by omega) (by rw [Nat.zero_add, Nat.mul_one])) ?_ | refine f_r rfl (rd_indexAddr_arr Try.underlying23 sz5 rfl rfl (by omega) (by omega) (by rw [Nat.zero_add])) ?_ | refine f_r rfl (rd_indexAddr_arr Try.underlying23 sz5 rfl rfl (by omega) (by omega) rfl) ?_
         refine f_end rfl ?_
         repeat (refine end_val ?_)
         refine end_nil ?_
         refine o_w rfl (wr_store rfl rfl sz5 rfl (by repeat (first | exact Upd.here | apply Upd.there)) (by simp [Value.cells])) ?_
         refine ow_nil ?_)
      | (refine cw_region (id := 4) ?_
         first | refine o_r rfl (rd_load_all rfl (by repeat (first | exact List.Mem.head _ | apply List.Mem.tail)) agg23 (by simp)) ?_ | refine o_r rfl (rd_load_agg rfl (by repeat (first | exact List.Mem.head _ | apply List.Mem.tail)) agg23 (by simp [Value.cells]) (by first | rfl | simp [Value.cells])) ?_
         first | refine o_w rfl (wr_store_all rfl rfl agg23 (by simp) (by simp) (by repeat (first | exact Upd.here | apply Upd.there)) (by simp)) ?_ | refine o_w rfl (wr_store_agg rfl rfl agg23 (by simp [Value.cells]) (by first | rfl | simp [Value.cells]) (by first | rfl | exact splice_all _ _ (by simp [Value.cells])) (by repeat (first | exact Upd.here | apply Upd.there)) (by simp [Value.cells])) ?_
         refine o_p rfl rfl ?_
         refine ow_nil ?_))
    exact fin2 (.inl rfl) rfl (res_cell_agg rfl (by repeat (first | exact List.Mem.head _ | apply List.Mem.tail)) agg23 (by simp [Value.cells]) (dv_ext _)) (res_tmp rfl) (fun v hv => ⟨rfl, hv.below (by simp) (by simp only [keysOf, List.map_cons, List.map_nil, List.forall_mem_cons, List.not_mem_nil, false_imp_iff, implies_true, and_true] <;> omega)⟩)
end Go.Proofs.Ytnlhkpdclnhneaa

import Derived.Test.YtnlhkpdclnhneaaPathF
namespace Go.Proofs.Ytnlhkpdclnhneaa
open Go.RowKit
attribute [local irreducible] Go.Calls
/-! the order of keys, in plain Lean -/
theorem shared_sym (a b : Dig) : sharedD a b = sharedD b a := by
  obtain ⟨h1, h2⟩ := shared_is a b
  refine shared_uniq (a := b) (b := a) ⟨fun j hj => (h1 j hj).symm, ?_⟩ (shared_is b a)
  rcases h2 with h | ⟨h3, h4⟩
  · exact .inl h
  · exact .inr ⟨h3, fun e => h4 e.symm⟩
theorem bits_ext {a b : Dig} (h : ∀ j, j < 256 → bitN a j = bitN b j) : a = b := by
  apply dig_ext
  intro i hi
  apply Nat.eq_of_testBit_eq
  intro t
  by_cases ht : t < 8
  · have := h (8 * i + (7 - t)) (by omega)
    unfold bitN at this
    rw [show (8 * i + (7 - t)) / 8 = i by omega, show 7 - (8 * i + (7 - t)) % 8 = t by omega, bit_test, bit_test] at this
    revert this; cases (kn a i).testBit t <;> cases (kn b i).testBit t <;> simp
  · have e : ∀ k : Dig, kn k i < 2 ^ t := fun k => Nat.lt_of_lt_of_le (show kn k i < 2 ^ 8 by have := kn_le k i; omega) (Nat.pow_le_pow_right (by omega) (by omega))
    rw [Nat.testBit_lt_two_pow (e a), Nat.testBit_lt_two_pow (e b)]
theorem shared_eq {a b : Dig} : sharedD a b = 256 ↔ a = b := by
  constructor
  · intro h
    have := (shared_is a b).1
    rw [h] at this
    exact bits_ext this
  · rintro rfl
    rcases (shared_is a a).2 with h | ⟨_, h⟩
    · exact h
    · exact absurd rfl h
theorem shared_min (a b c : Dig) : min (sharedD a b) (sharedD b c) ≤ sharedD a c := by
  obtain ⟨h1, -⟩ := shared_is a b
  obtain ⟨h2, -⟩ := shared_is b c
  obtain ⟨-, h3⟩ := shared_is a c
  have hab := shared_le a b
  rcases h3 with h | ⟨h3, h4⟩
  · omega
  · rcases Nat.lt_or_ge (sharedD a c) (min (sharedD a b) (sharedD b c)) with hlt | hge
    · exact absurd ((h1 _ (by omega)).trans (h2 _ (by omega))) h4
    · exact hge
theorem ahead_irr (a : Dig) : aheadD a a = false := by rw [ahead_is, shared_eq.2 rfl]; simp
theorem ahead_one {a b : Dig} (h : ¬ a = b) : (aheadD a b = true ∧ aheadD b a = false) ∨ (aheadD a b = false ∧ aheadD b a = true) := by
  have hs : ¬ sharedD a b = 256 := fun e => h (shared_eq.1 e)
  have hl := shared_le a b
  have hne : ¬ bitN a (sharedD a b) = bitN b (sharedD a b) := by
    rcases (shared_is a b).2 with e | ⟨_, e⟩
    · exact absurd e hs
    · exact e
  rw [ahead_is, ahead_is, shared_sym b a]
  rcases Nat.lt_or_ge (bitN a (sharedD a b)) (bitN b (sharedD a b)) with h1 | h1
  · exact .inl ⟨decide_eq_true ⟨by omega, h1⟩, decide_eq_false (by omega)⟩
  · exact .inr ⟨decide_eq_false (by omega), decide_eq_true ⟨by omega, by omega⟩⟩
theorem ahead_trans {a b c : Dig} (h1 : aheadD a b = true) (h2 : aheadD b c = true) : aheadD a c = true := by
  rw [ahead_is] at h1 h2 ⊢
  have h1 := of_decide_eq_true h1
  have h2 := of_decide_eq_true h2
  refine decide_eq_true ?_
  obtain ⟨s1, -⟩ := shared_is a b
  obtain ⟨s2, -⟩ := shared_is b c
  have ba := bitN_le a; have bb := bitN_le b; have bc := bitN_le c
  rcases Nat.lt_trichotomy (sharedD a b) (sharedD b c) with h | h | h
  · have e : sharedD a c = sharedD a b := shared_uniq (shared_is a c) ⟨fun j hj => (s1 j hj).trans (s2 j (by omega)), .inr ⟨h1.1, fun e => by have := s2 _ h; omega⟩⟩
    rw [e]
    exact ⟨h1.1, by rw [← s2 _ h]; exact h1.2⟩
  · have := bb (sharedD a b)
    have := bc (sharedD a b)
    rw [← h] at h2
    omega
  · have e : sharedD a c = sharedD b c := shared_uniq (shared_is a c) ⟨fun j hj => (s1 j (by omega)).trans (s2 j hj), .inr ⟨h2.1, fun e => by have := s1 _ h; omega⟩⟩
    rw [e]
    exact ⟨h2.1, by rw [s1 _ h]; exact h2.2⟩
theorem order_c (a b c : Dig) (w : World) : Calls Try.prog 3 #[.agg (dv a), .agg (dv b), .agg (dv c)] w fun e w' => e = .returned (.bool true) ∧ Below w.heap.size w w' := by
  have hsym := shared_sym a b
  have hmin := shared_min a b c
  have key : (a = b ∧ sharedD a b = 256 ∧ aheadD a b = false ∧ aheadD b a = false) ∨ (¬ a = b ∧ ¬ sharedD a b = 256 ∧ aheadD a b = true ∧ aheadD b a = false) ∨ (¬ a = b ∧ ¬ sharedD a b = 256 ∧ aheadD a b = false ∧ aheadD b a = true) := by
    rcases Classical.em (a = b) with h | h
    · exact .inl ⟨h, shared_eq.2 h, by rw [h]; exact ahead_irr b, by rw [h]; exact ahead_irr b⟩
    · have hs : ¬ sharedD a b = 256 := fun e => h (shared_eq.1 e)
      rcases ahead_one h with ⟨h1, h2⟩ | ⟨h1, h2⟩
      · exact .inr (.inl ⟨h, hs, h1, h2⟩)
      · exact .inr (.inr ⟨h, hs, h1, h2⟩)
  have key2 : aheadD a b = false ∨ (aheadD b c = false ∨ (aheadD b c = true ∧ aheadD a c = true)) := by
    cases h1 : aheadD a b with
    | false => exact .inl rfl
    | true => cases h2 : aheadD b c with
      | false => exact .inr (.inl rfl)
      | true => exact .inr (.inr ⟨rfl, ahead_trans h1 h2⟩)
  rcases key with ⟨h, hs, hab, hba⟩ | ⟨h, hs, hab, hba⟩ | ⟨h, hs, hab, hba⟩
  · clear key2
    refine enter Try.func3 rfl (Nat.le_of_ble_eq_true rfl) (kn0 w) (vs := [_, _, _]) (fr0 := [(0, _), (1, _), (2, _)]) rfl (n := 78) rfl ?_
    repeat (first
      | refine cw_seq ?_
      | refine cw_block ?_
      | refine cw_skip ?_
      | refine cw_label ?_
      | refine cw_exit ?_
      | refine cw_ret ?_
      | refine qw_then ?_
      | refine qw_block_normal ?_
      | refine qw_block_exit ?_
      | refine qw_block_other rfl ?_
      | refine qw_block_ret ?_
      | refine qw_then_ret ?_
      | refine qw_then_exit ?_
      | refine cw_true rfl ?_
      | refine cw_false rfl ?_
      | refine cw_scope ?_
      | refine qw_scope_normal ?_
      | refine qw_scope_ret ?_
      | refine qw_scope_exit ?_
      | (refine cw_region (id := 0) ?_
         first | (refine o_a rfl (al_box_agg rfl) (fun b3 fb3 => ?_); try simp only [fresh_iff, keysOf, List.map_cons, List.map_nil, List.forall_mem_cons, List.not_mem_nil, false_imp_iff, implies_true, and_true] at fb3) | (refine o_a rfl (al_box rfl) (fun b3 fb3 => ?_); try simp only [fresh_iff, keysOf, List.map_cons, List.map_nil, List.forall_mem_cons, List.not_mem_nil, false_imp_iff, implies_true, and_true] at fb3)
         first | (refine o_a rfl (al_box_agg rfl) (fun b4 fb4 => ?_); try simp only [fresh_iff, keysOf, List.map_cons, List.map_nil, List.forall_mem_cons, List.not_mem_nil, false_imp_iff, implies_true, and_true] at fb4) | (refine o_a rfl (al_box rfl) (fun b4 fb4 => ?_); try simp only [fresh_iff, keysOf, List.map_cons, List.map_nil, List.forall_mem_cons, List.not_mem_nil, false_imp_iff, implies_true, and_true] at fb4)
         first | (refine o_a rfl (al_box_agg rfl) (fun b5 fb5 => ?_); try simp only [fresh_iff, keysOf, List.map_cons, List.map_nil, List.forall_mem_cons, List.not_mem_nil, false_imp_iff, implies_true, and_true] at fb5) | (refine o_a rfl (al_box rfl) (fun b5 fb5 => ?_); try simp only [fresh_iff, keysOf, List.map_cons, List.map_nil, List.forall_mem_cons, List.not_mem_nil, false_imp_iff, implies_true, and_true] at fb5)
         refine o_p rfl rfl ?_
         refine ow_nil ?_)
      | (refine cw_region (id := 1) ?_
         (refine o_c rfl rfl rfl en7 rfl (fun s hs => (alive_c _).mono ?_); rintro e w' ⟨rfl, hb⟩; refine ⟨_, _, _, rfl, hs.grow hb, ?_⟩; clear hb hs w' s)
         refine o_p rfl rfl ?_
         refine ow_nil ?_)
      | (refine cw_flow (id := 2) 22 mixed (by kernel_rfl) ?_
         first | refine f_r rfl (rd_load_all rfl (by repeat (first | exact List.Mem.head _ | apply List.Mem.tail)) agg23 (by simp)) ?_ | refine f_r rfl (rd_load_agg rfl (by repeat (first | exact List.Mem.head _ | apply List.Mem.tail)) agg23 (by simp [Value.cells]) (by first | rfl | simp [Value.cells])) ?_
         first | refine f_r rfl (rd_load_all rfl (by repeat (first | exact List.Mem.head _ | apply List.Mem.tail)) agg23 (by simp)) ?_ | refine f_r rfl (rd_load_agg rfl (by repeat (first | exact List.Mem.head _ | apply List.Mem.tail)) agg23 (by simp [Value.cells]) (by first | rfl | simp [Value.cells])) ?_
         refine f_c rfl rfl rfl en8 rfl (fun s hs => ahead_v _ (by assumption)) ?_
         refine f_p rfl rfl ?_
         first | refine f_k rfl ?_ | refine f_r rfl (rd_load_all rfl (by repeat (first | exact List.Mem.head _ | apply List.Mem.tail)) agg23 (by simp)) ?_ | refine f_r rfl (rd_load_agg rfl (by repeat (first | exact List.Mem.head _ | apply List.Mem.tail)) agg23 (by simp [Value.cells]) (by first | rfl | simp [Value.cells])) ?_
         first | refine f_k rfl ?_ | refine f_r rfl (rd_load_all rfl (by repeat (first | exact List.Mem.head _ | apply List.Mem.tail)) agg23 (by simp)) ?_ | refine f_r rfl (rd_load_agg rfl (by repeat (first | exact List.Mem.head _ | apply List.Mem.tail)) agg23 (by simp [Value.cells]) (by first | rfl | simp [Value.cells])) ?_
         first | refine f_k rfl ?_ | refine f_c rfl rfl rfl en8 rfl (fun s hs => ahead_v _ (by assumption)) ?_
         refine f_p rfl rfl ?_
         refine f_p rfl rfl ?_
         first | refine f_k rfl ?_ | refine f_r rfl (rd_load_all rfl (by repeat (first | exact List.Mem.head _ | apply List.Mem.tail)) agg23 (by simp)) ?_ | refine f_r rfl (rd_load_agg rfl (by repeat (first | exact List.Mem.head _ | apply List.Mem.tail)) agg23 (by simp [Value.cells]) (by first | rfl | simp [Value.cells])) ?_
         first | refine f_k rfl ?_ | refine f_r rfl (rd_load_all rfl (by repeat (first | exact List.Mem.head _ | apply List.Mem.tail)) agg23 (by simp)) ?_ | refine f_r rfl (rd_load_agg rfl (by repeat (first | exact List.Mem.head _ | apply List.Mem.tail)) agg23 (by simp [Value.cells]) (by first | rfl | simp [Value.cells])) ?_
         first | refine f_k rfl ?_ | refine f_r rfl (rd_eql_agg eg23 rfl rfl (fun w => eqlt23 (by first | rfl | assumption) w)) ?_ | refine f_r rfl (rd_eql_agg eg23 rfl rfl (fun w => eqlf23 (by assumption) w)) ?_ | refine f_r rfl (rd_eql_agg eg23 rfl rfl (fun w => eql23 _ _ w)) ?_
         first | refine f_k rfl ?_ | refine f_r rfl (rd_load_all rfl (by repeat (first | exact List.Mem.head _ | apply List.Mem.tail)) agg23 (by simp)) ?_ | refine f_r rfl (rd_load_agg rfl (by repeat (first | exact List.Mem.head _ | apply List.Mem.tail)) agg23 (by simp [Value.cells]) (by first | rfl | simp [Value.cells])) ?_
         first | refine f_k rfl ?_ | refine f_r rfl (rd_load_all rfl (by repeat (first | exact List.Mem.head _ | apply List.Mem.tail)) agg23 (by simp)) ?_ | refine f_r rfl (rd_load_agg rfl (by repeat (first | exact List.Mem.head _ | apply List.Mem.tail)) agg23 (by simp [Value.cells]) (by first | rfl | simp [Value.cells])) ?_
         first | refine f_k rfl ?_ | refine f_c rfl rfl rfl en8 rfl (fun s hs => ahead_v _ (by assumption)) ?_
         first | refine f_k rfl ?_ | refine f_p rfl rfl ?_
         first | refine f_k rfl ?_ | refine f_r rfl (rd_load_all rfl (by repeat (first | exact List.Mem.head _ | apply List.Mem.tail)) agg23 (by simp)) ?_ | refine f_r rfl (rd_load_agg rfl (by repeat (first | exact List.Mem.head _ | apply List.Mem.tail)) agg23 (by simp [Value.cells]) (by first | rfl | simp [Value.cells])) ?_
         first | refine f_k rfl ?_ | refine f_r rfl (rd_load_all rfl (by repeat (first | exact List.Mem.head _ | apply List.Mem.tail)) agg23 (by simp)) ?_ | refine f_r rfl (rd_load_agg rfl (by repeat (first | exact List.Mem.head _ | apply List.Mem.tail)) agg23 (by simp [Value.cells]) (by first | rfl | simp [Value.cells])) ?_
         first | refine f_k rfl ?_ | refine f_c rfl rfl rfl en8 rfl (fun s hs => ahead_v _ (by assumption)) ?_
         first | refine f_k rfl ?_ | refine f_p rfl rfl ?_
         first | refine f_k rfl ?_ | refine f_r rfl (rd_eql_bool Try.underlying4 rfl rfl rfl) ?_
         refine f_p rfl rfl ?_
         refine f_end rfl ?_
         repeat (refine end_val ?_)
         refine end_nil ?_
         refine ow_nil ?_)
      | (refine cw_region (id := 3) ?_
         refine o_p rfl rfl ?_
         refine ow_nil ?_)
      | (refine cw_region (id := 4) ?_
         first | refine o_r rfl (rd_load_all rfl (by repeat (first | exact List.Mem.head _ | apply List.Mem.tail)) agg23 (by simp)) ?_ | refine o_r rfl (rd_load_agg rfl (by repeat (first | exact List.Mem.head _ | apply List.Mem.tail)) agg23 (by simp [Value.cells]) (by first | rfl | simp [Value.cells])) ?_
         first | refine o_r rfl (rd_load_all rfl (by repeat (first | exact List.Mem.head _ | apply List.Mem.tail)) agg23 (by simp)) ?_ | refine o_r rfl (rd_load_agg rfl (by repeat (first | exact List.Mem.head _ | apply List.Mem.tail)) agg23 (by simp [Value.cells]) (by first | rfl | simp [Value.cells])) ?_
         (refine o_c rfl rfl rfl en8 rfl (fun s hs => (ahead_v _ (by assumption)).mono ?_); rintro e w' ⟨rfl, hb⟩; refine ⟨_, _, _, rfl, hs.grow hb, ?_⟩; clear hb hs w' s)
         refine o_p rfl rfl ?_
         first | refine o_k rfl ?_ | refine o_r rfl (rd_load_all rfl (by repeat (first | exact List.Mem.head _ | apply List.Mem.tail)) agg23 (by simp)) ?_ | refine o_r rfl (rd_load_agg rfl (by repeat (first | exact List.Mem.head _ | apply List.Mem.tail)) agg23 (by simp [Value.cells]) (by first | rfl | simp [Value.cells])) ?_
         first | refine o_k rfl ?_ | refine o_r rfl (rd_load_all rfl (by repeat (first | exact List.Mem.head _ | apply List.Mem.tail)) agg23 (by simp)) ?_ | refine o_r rfl (rd_load_agg rfl (by repeat (first | exact List.Mem.head _ | apply List.Mem.tail)) agg23 (by simp [Value.cells]) (by first | rfl | simp [Value.cells])) ?_
         first | refine o_k rfl ?_ | (refine o_c rfl rfl rfl en8 rfl (fun s hs => (ahead_v _ (by assumption)).mono ?_); rintro e w' ⟨rfl, hb⟩; refine ⟨_, _, _, rfl, hs.grow hb, ?_⟩; clear hb hs w' s)
         refine o_p rfl rfl ?_
         refine o_p rfl rfl ?_
         first | refine o_k rfl ?_ | refine o_r rfl (rd_load_all rfl (by repeat (first | exact List.Mem.head _ | apply List.Mem.tail)) agg23 (by simp)) ?_ | refine o_r rfl (rd_load_agg rfl (by repeat (first | exact List.Mem.head _ | apply List.Mem.tail)) agg23 (by simp [Value.cells]) (by first | rfl | simp [Value.cells])) ?_
         first | refine o_k rfl ?_ | refine o_r rfl (rd_load_all rfl (by repeat (first | exact List.Mem.head _ | apply List.Mem.tail)) agg23 (by simp)) ?_ | refine o_r rfl (rd_load_agg rfl (by repeat (first | exact List.Mem.head _ | apply List.Mem.tail)) agg23 (by simp [Value.cells]) (by first | rfl | simp [Value.cells])) ?_
         first | refine o_k rfl ?_ | (refine o_c rfl rfl rfl en8 rfl (fun s hs => (ahead_v _ (by assumption)).mono ?_); rintro e w' ⟨rfl, hb⟩; refine ⟨_, _, _, rfl, hs.grow hb, ?_⟩; clear hb hs w' s)
         first | refine o_k rfl ?_ | refine o_p rfl rfl ?_
         refine o_p rfl rfl ?_
         refine ow_nil ?_)
      | (refine cw_region (id := 5) ?_
         refine o_p rfl rfl ?_
         refine ow_nil ?_)
      | (refine cw_flow (id := 6) 34 mixed (by kernel_rfl) ?_
         refine f_p rfl rfl ?_
         refine f_p rfl rfl ?_
         first | refine f_k rfl ?_ | refine f_r rfl (rd_load_all rfl (by repeat (first | exact List.Mem.head _ | apply List.Mem.tail)) agg23 (by simp)) ?_ | refine f_r rfl (rd_load_agg rfl (by repeat (first | exact List.Mem.head _ | apply List.Mem.tail)) agg23 (by simp [Value.cells]) (by first | rfl | simp [Value.cells])) ?_
         first | refine f_k rfl ?_ | refine f_r rfl (rd_load_all rfl (by repeat (first | exact List.Mem.head _ | apply List.Mem.tail)) agg23 (by simp)) ?_ | refine f_r rfl (rd_load_agg rfl (by repeat (first | exact List.Mem.head _ | apply List.Mem.tail)) agg23 (by simp [Value.cells]) (by first | rfl | simp [Value.cells])) ?_
         first | refine f_k rfl ?_ | refine f_c rfl rfl rfl en9 rfl (fun s hs => shared_c _ _ _) ?_
         first | refine f_k rfl ?_ | refine f_r rfl (rd_load_all rfl (by repeat (first | exact List.Mem.head _ | apply List.Mem.tail)) agg23 (by simp)) ?_ | refine f_r rfl (rd_load_agg rfl (by repeat (first | exact List.Mem.head _ | apply List.Mem.tail)) agg23 (by simp [Value.cells]) (by first | rfl | simp [Value.cells])) ?_
         first | refine f_k rfl ?_ | refine f_r rfl (rd_load_all rfl (by repeat (first | exact List.Mem.head _ | apply List.Mem.tail)) agg23 (by simp)) ?_ | refine f_r rfl (rd_load_agg rfl (by repeat (first | exact List.Mem.head _ | apply List.Mem.tail)) agg23 (by simp [Value.cells]) (by first | rfl | simp [Value.cells])) ?_
         first | refine f_k rfl ?_ | refine f_c rfl rfl rfl en9 rfl (fun s hs => shared_c _ _ _) ?_
         first | refine f_k rfl ?_ | refine f_r rfl (rd_load_all rfl (by repeat (first | exact List.Mem.head _ | apply List.Mem.tail)) agg23 (by simp)) ?_ | refine f_r rfl (rd_load_agg rfl (by repeat (first | exact List.Mem.head _ | apply List.Mem.tail)) agg23 (by simp [Value.cells]) (by first | rfl | simp [Value.cells])) ?_
         first | refine f_k rfl ?_ | refine f_r rfl (rd_load_all rfl (by repeat (first | exact List.Mem.head _ | apply List.Mem.tail)) agg23 (by simp)) ?_ | refine f_r rfl (rd_load_agg rfl (by repeat (first | exact List.Mem.head _ | apply List.Mem.tail)) agg23 (by simp [Value.cells]) (by first | rfl | simp [Value.cells])) ?_
         first | refine f_k rfl ?_ | refine f_c rfl rfl rfl en9 rfl (fun s hs => shared_c _ _ _) ?_
         first | refine f_k rfl ?_ | refine f_r rfl (rd_min rfl rfl) ?_
         first | refine f_k rfl ?_ | refine f_r rfl (r_cmp rfl rfl rfl (cmp_t (by omega))) ?_ | refine f_r rfl (r_cmp rfl rfl rfl (cmp_f (by omega))) ?_ | refine f_r rfl (r_cmp rfl rfl rfl rfl) ?_
         refine f_p rfl rfl ?_
         refine f_p rfl rfl ?_
         first | refine f_k rfl ?_ | refine f_r rfl (rd_load_all rfl (by repeat (first | exact List.Mem.head _ | apply List.Mem.tail)) agg23 (by simp)) ?_ | refine f_r rfl (rd_load_agg rfl (by repeat (first | exact List.Mem.head _ | apply List.Mem.tail)) agg23 (by simp [Value.cells]) (by first | rfl | simp [Value.cells])) ?_
         first | refine f_k rfl ?_ | refine f_r rfl (rd_load_all rfl (by repeat (first | exact List.Mem.head _ | apply List.Mem.tail)) agg23 (by simp)) ?_ | refine f_r rfl (rd_load_agg rfl (by repeat (first | exact List.Mem.head _ | apply List.Mem.tail)) agg23 (by simp [Value.cells]) (by first | rfl | simp [Value.cells])) ?_
         first | refine f_k rfl ?_ | refine f_c rfl rfl rfl en9 rfl (fun s hs => shared_c _ _ _) ?_
         first | refine f_k rfl ?_ | refine f_r rfl (rd_load_all rfl (by repeat (first | exact List.Mem.head _ | apply List.Mem.tail)) agg23 (by simp)) ?_ | refine f_r rfl (rd_load_agg rfl (by repeat (first | exact List.Mem.head _ | apply List.Mem.tail)) agg23 (by simp [Value.cells]) (by first | rfl | simp [Value.cells])) ?_
         first | refine f_k rfl ?_ | refine f_r rfl (rd_load_all rfl (by repeat (first | exact List.Mem.head _ | apply List.Mem.tail)) agg23 (by simp)) ?_ | refine f_r rfl (rd_load_agg rfl (by repeat (first | exact List.Mem.head _ | apply List.Mem.tail)) agg23 (by simp [Value.cells]) (by first | rfl | simp [Value.cells])) ?_
         first | refine f_k rfl ?_ | refine f_c rfl rfl rfl en9 rfl (fun s hs => shared_c _ _ _) ?_
         first | refine f_k rfl ?_ | refine f_r rfl (r_cmp rfl rfl rfl (cmp_t (by omega))) ?_ | refine f_r rfl (r_cmp rfl rfl rfl (cmp_f (by omega))) ?_ | refine f_r rfl (r_cmp rfl rfl rfl rfl) ?_
         refine f_p rfl rfl ?_
         refine f_p rfl rfl ?_
         first | refine f_k rfl ?_ | refine f_r rfl (rd_load_all rfl (by repeat (first | exact List.Mem.head _ | apply List.Mem.tail)) agg23 (by simp)) ?_ | refine f_r rfl (rd_load_agg rfl (by repeat (first | exact List.Mem.head _ | apply List.Mem.tail)) agg23 (by simp [Value.cells]) (by first | rfl | simp [Value.cells])) ?_
         first | refine f_k rfl ?_ | refine f_r rfl (rd_load_all rfl (by repeat (first | exact List.Mem.head _ | apply List.Mem.tail)) agg23 (by simp)) ?_ | refine f_r rfl (rd_load_agg rfl (by repeat (first | exact List.Mem.head _ | apply List.Mem.tail)) agg23 (by simp [Value.cells]) (by first | rfl | simp [Value.cells])) ?_
         first | refine f_k rfl ?_ | refine f_c rfl rfl rfl en9 rfl (fun s hs => shared_c _ _ _) ?_
         first | refine f_k rfl ?_ | refine f_r rfl (r_cmp rfl rfl rfl (cmp_t (by omega))) ?_ | refine f_r rfl (r_cmp rfl rfl rfl (cmp_f (by omega))) ?_ | refine f_r rfl (r_cmp rfl rfl rfl rfl) ?_
         first | refine f_k rfl ?_ | refine f_r rfl (rd_load_all rfl (by repeat (first | exact List.Mem.head _ | apply List.Mem.tail)) agg23 (by simp)) ?_ | refine f_r rfl (rd_load_agg rfl (by repeat (first | exact List.Mem.head _ | apply List.Mem.tail)) agg23 (by simp [Value.cells]) (by first | rfl | simp [Value.cells])) ?_
         first | refine f_k rfl ?_ | refine f_r rfl (rd_load_all rfl (by repeat (first | exact List.Mem.head _ | apply List.Mem.tail)) agg23 (by simp)) ?_ | refine f_r rfl (rd_load_agg rfl (by repeat (first | exact List.Mem.head _ | apply List.Mem.tail)) agg23 (by simp [Value.cells]) (by first | rfl | simp [Value.cells])) ?_
         first | refine f_k rfl ?_ | refine f_r rfl (rd_eql_agg eg23 rfl rfl (fun w => eqlt23 (by first | rfl | assumption) w)) ?_ | refine f_r rfl (rd_eql_agg eg23 rfl rfl (fun w => eqlf23 (by assumption) w)) ?_ | refine f_r rfl (rd_eql_agg eg23 rfl rfl (fun w => eql23 _ _ w)) ?_
         first | refine f_k rfl ?_ | refine f_r rfl (rd_eql_bool Try.underlying4 rfl rfl rfl) ?_
         refine f_p rfl rfl ?_
         refine f_p rfl rfl ?_
         refine f_end rfl ?_
         repeat (refine end_val ?_)
         refine end_nil ?_
         refine ow_nil ?_))
    exact fin1 (.inl rfl) rfl (res_tmp rfl) (fun v hv => ⟨rfl, hv.below (by simp) (by simp only [keysOf, List.map_cons, List.map_nil, List.forall_mem_cons, List.not_mem_nil, false_imp_iff, implies_true, and_true] <;> omega)⟩)
  · rcases key2 with k2 | k2 | ⟨k2, k3⟩
    · rw [hab] at k2; cases k2
    · refine enter Try.func3 rfl (Nat.le_of_ble_eq_true rfl) (kn0 w) (vs := [_, _, _]) (fr0 := [(0, _), (1, _), (2, _)]) rfl (n := 78) rfl ?_
      repeat (first
        | refine cw_seq ?_
        | refine cw_block ?_
        | refine cw_skip ?_
        | refine cw_label ?_
        | refine cw_exit ?_
        | refine cw_ret ?_
        | refine qw_then ?_
        | refine qw_block_normal ?_
        | refine qw_block_exit ?_
        | refine qw_block_other rfl ?_
        | refine qw_block_ret ?_
        | refine qw_then_ret ?_
        | refine qw_then_exit ?_
        | refine cw_true rfl ?_
        | refine cw_false rfl ?_
        | refine cw_scope ?_
        | refine qw_scope_normal ?_
        | refine qw_scope_ret ?_
        | refine qw_scope_exit ?_
        | (refine cw_region (id := 0) ?_
           first | (refine o_a rfl (al_box_agg rfl) (fun b3 fb3 => ?_); try simp only [fresh_iff, keysOf, List.map_cons, List.map_nil, List.forall_mem_cons, List.not_mem_nil, false_imp_iff, implies_true, and_true] at fb3) | (refine o_a rfl (al_box rfl) (fun b3 fb3 => ?_); try simp only [fresh_iff, keysOf, List.map_cons, List.map_nil, List.forall_mem_cons, List.not_mem_nil, false_imp_iff, implies_true, and_true] at fb3)
           first | (refine o_a rfl (al_box_agg rfl) (fun b4 fb4 => ?_); try simp only [fresh_iff, keysOf, List.map_cons, List.map_nil, List.forall_mem_cons, List.not_mem_nil, false_imp_iff, implies_true, and_true] at fb4) | (refine o_a rfl (al_box rfl) (fun b4 fb4 => ?_); try simp only [fresh_iff, keysOf, List.map_cons, List.map_nil, List.forall_mem_cons, List.not_mem_nil, false_imp_iff, implies_true, and_true] at fb4)
           first | (refine o_a rfl (al_box_agg rfl) (fun b5 fb5 => ?_); try simp only [fresh_iff, keysOf, List.map_cons, List.map_nil, List.forall_mem_cons, List.not_mem_nil, false_imp_iff, implies_true, and_true] at fb5) | (refine o_a rfl (al_box rfl) (fun b5 fb5 => ?_); try simp only [fresh_iff, keysOf, List.map_cons, List.map_nil, List.forall_mem_cons, List.not_mem_nil, false_imp_iff, implies_true, and_true] at fb5)
           refine o_p rfl rfl ?_
           refine ow_nil ?_)
        | (refine cw_region (id := 1) ?_
           (refine o_c rfl rfl rfl en7 rfl (fun s hs => (alive_c _).mono ?_); rintro e w' ⟨rfl, hb⟩; refine ⟨_, _, _, rfl, hs.grow hb, ?_⟩; clear hb hs w' s)
           refine o_p rfl rfl ?_
           refine ow_nil ?_)
        | (refine cw_flow (id := 2) 22 mixed (by kernel_rfl) ?_
           first | refine f_r rfl (rd_load_all rfl (by repeat (first | exact List.Mem.head _ | apply List.Mem.tail)) agg23 (by simp)) ?_ | refine f_r rfl (rd_load_agg rfl (by repeat (first | exact List.Mem.head _ | apply List.Mem.tail)) agg23 (by simp [Value.cells]) (by first | rfl | simp [Value.cells])) ?_
           first | refine f_r rfl (rd_load_all rfl (by repeat (first | exact List.Mem.head _ | apply List.Mem.tail)) agg23 (by simp)) ?_ | refine f_r rfl (rd_load_agg rfl (by repeat (first | exact List.Mem.head _ | apply List.Mem.tail)) agg23 (by simp [Value.cells]) (by first | rfl | simp [Value.cells])) ?_
           refine f_c rfl rfl rfl en8 rfl (fun s hs => ahead_v _ (by assumption)) ?_
           refine f_p rfl rfl ?_
           first | refine f_k rfl ?_ | refine f_r rfl (rd_load_all rfl (by repeat (first | exact List.Mem.head _ | apply List.Mem.tail)) agg23 (by simp)) ?_ | refine f_r rfl (rd_load_agg rfl (by repeat (first | exact List.Mem.head _ | apply List.Mem.tail)) agg23 (by simp [Value.cells]) (by first | rfl | simp [Value.cells])) ?_
           first | refine f_k rfl ?_ | refine f_r rfl (rd_load_all rfl (by repeat (first | exact List.Mem.head _ | apply List.Mem.tail)) agg23 (by simp)) ?_ | refine f_r rfl (rd_load_agg rfl (by repeat (first | exact List.Mem.head _ | apply List.Mem.tail)) agg23 (by simp [Value.cells]) (by first | rfl | simp [Value.cells])) ?_
           first | refine f_k rfl ?_ | refine f_c rfl rfl rfl en8 rfl (fun s hs => ahead_v _ (by assumption)) ?_
           refine f_p rfl rfl ?_
           refine f_p rfl rfl ?_
           first | refine f_k rfl ?_ | refine f_r rfl (rd_load_all rfl (by repeat (first | exact List.Mem.head _ | apply List.Mem.tail)) agg23 (by simp)) ?_ | refine f_r rfl (rd_load_agg rfl (by repeat (first | exact List.Mem.head _ | apply List.Mem.tail)) agg23 (by simp [Value.cells]) (by first | rfl | simp [Value.cells])) ?_
           first | refine f_k rfl ?_ | refine f_r rfl (rd_load_all rfl (by repeat (first | exact List.Mem.head _ | apply List.Mem.tail)) agg23 (by simp)) ?_ | refine f_r rfl (rd_load_agg rfl (by repeat (first | exact List.Mem.head _ | apply List.Mem.tail)) agg23 (by simp [Value.cells]) (by first | rfl | simp [Value.cells])) ?_
           first | refine f_k rfl ?_ | refine f_r rfl (rd_eql_agg eg23 rfl rfl (fun w => eqlt23 (by first | rfl | assumption) w)) ?_ | refine f_r rfl (rd_eql_agg eg23 rfl rfl (fun w => eqlf23 (by assumption) w)) ?_ | refine f_r rfl (rd_eql_agg eg23 rfl rfl (fun w => eql23 _ _ w)) ?_
           first | refine f_k rfl ?_ | refine f_r rfl (rd_load_all rfl (by repeat (first | exact List.Mem.head _ | apply List.Mem.tail)) agg23 (by simp)) ?_ | refine f_r rfl (rd_load_agg rfl (by repeat (first | exact List.Mem.head _ | apply List.Mem.tail)) agg23 (by simp [Value.cells]) (by first | rfl | simp [Value.cells])) ?_
           first | refine f_k rfl ?_ | refine f_r rfl (rd_load_all rfl (by repeat (first | exact List.Mem.head _ | apply List.Mem.tail)) agg23 (by simp)) ?_ | refine f_r rfl (rd_load_agg rfl (by repeat (first | exact List.Mem.head _ | apply List.Mem.tail)) agg23 (by simp [Value.cells]) (by first | rfl | simp [Value.cells])) ?_
           first | refine f_k rfl ?_ | refine f_c rfl rfl rfl en8 rfl (fun s hs => ahead_v _ (by assumption)) ?_
           first | refine f_k rfl ?_ | refine f_p rfl rfl ?_
           first | refine f_k rfl ?_ | refine f_r rfl (rd_load_all rfl (by repeat (first | exact List.Mem.head _ | apply List.Mem.tail)) agg23 (by simp)) ?_ | refine f_r rfl (rd_load_agg rfl (by repeat (first | exact List.Mem.head _ | apply List.Mem.tail)) agg23 (by simp [Value.cells]) (by first | rfl | simp [Value.cells])) ?_
           first | refine f_k rfl ?_ | refine f_r rfl (rd_load_all rfl (by repeat (first | exact List.Mem.head _ | apply List.Mem.tail)) agg23 (by simp)) ?_ | refine f_r rfl (rd_load_agg rfl (by repeat (first | exact List.Mem.head _ | apply List.Mem.tail)) agg23 (by simp [Value.cells]) (by first | rfl | simp [Value.cells])) ?_
           first | refine f_k rfl ?_ | refine f_c rfl rfl rfl en8 rfl (fun s hs => ahead_v _ (by assumption)) ?_
           first | refine f_k rfl ?_ | refine f_p rfl rfl ?_
           first | refine f_k rfl ?_ | refine f_r rfl (rd_eql_bool Try.underlying4 rfl rfl rfl) ?_
           refine f_p rfl rfl ?_
           refine f_end rfl ?_
           repeat (refine end_val ?_)
           refine end_nil ?_
           refine ow_nil ?_)
        | (refine cw_region (id := 3) ?_
           refine o_p rfl rfl ?_
           refine ow_nil ?_)
        | (refine cw_region (id := 4) ?_
           first | refine o_r rfl (rd_load_all rfl (by repeat (first | exact List.Mem.head _ | apply List.Mem.tail)) agg23 (by simp)) ?_ | refine o_r rfl (rd_load_agg rfl (by repeat (first | exact List.Mem.head _ | apply List.Mem.tail)) agg23 (by simp [Value.cells]) (by first | rfl | simp [Value.cells])) ?_
           first | refine o_r rfl (rd_load_all rfl (by repeat (first | exact List.Mem.head _ | apply List.Mem.tail)) agg23 (by simp)) ?_ | refine o_r rfl (rd_load_agg rfl (by repeat (first | exact List.Mem.head _ | apply List.Mem.tail)) agg23 (by simp [Value.cells]) (by first | rfl | simp [Value.cells])) ?_
           (refine o_c rfl rfl rfl en8 rfl (fun s hs => (ahead_v _ (by assumption)).mono ?_); rintro e w' ⟨rfl, hb⟩; refine ⟨_, _, _, rfl, hs.grow hb, ?_⟩; clear hb hs w' s)
           refine o_p rfl rfl ?_
           first | refine o_k rfl ?_ | refine o_r rfl (rd_load_all rfl (by repeat (first | exact List.Mem.head _ | apply List.Mem.tail)) agg23 (by simp)) ?_ | refine o_r rfl (rd_load_agg rfl (by repeat (first | exact List.Mem.head _ | apply List.Mem.tail)) agg23 (by simp [Value.cells]) (by first | rfl | simp [Value.cells])) ?_
           first | refine o_k rfl ?_ | refine o_r rfl (rd_load_all rfl (by repeat (first | exact List.Mem.head _ | apply List.Mem.tail)) agg23 (by simp)) ?_ | refine o_r rfl (rd_load_agg rfl (by repeat (first | exact List.Mem.head _ | apply List.Mem.tail)) agg23 (by simp [Value.cells]) (by first | rfl | simp [Value.cells])) ?_
           first | refine o_k rfl ?_ | (refine o_c rfl rfl rfl en8 rfl (fun s hs => (ahead_v _ (by assumption)).mono ?_); rintro e w' ⟨rfl, hb⟩; refine ⟨_, _, _, rfl, hs.grow hb, ?_⟩; clear hb hs w' s)
           refine o_p rfl rfl ?_
           refine o_p rfl rfl ?_
           first | refine o_k rfl ?_ | refine o_r rfl (rd_load_all rfl (by repeat (first | exact List.Mem.head _ | apply List.Mem.tail)) agg23 (by simp)) ?_ | refine o_r rfl (rd_load_agg rfl (by repeat (first | exact List.Mem.head _ | apply List.Mem.tail)) agg23 (by simp [Value.cells]) (by first | rfl | simp [Value.cells])) ?_
           first | refine o_k rfl ?_ | refine o_r rfl (rd_load_all rfl (by repeat (first | exact List.Mem.head _ | apply List.Mem.tail)) agg23 (by simp)) ?_ | refine o_r rfl (rd_load_agg rfl (by repeat (first | exact List.Mem.head _ | apply List.Mem.tail)) agg23 (by simp [Value.cells]) (by first | rfl | simp [Value.cells])) ?_
           first | refine o_k rfl ?_ | (refine o_c rfl rfl rfl en8 rfl (fun s hs => (ahead_v _ (by assumption)).mono ?_); rintro e w' ⟨rfl, hb⟩; refine ⟨_, _, _, rfl, hs.grow hb, ?_⟩; clear hb hs w' s)
           first | refine o_k rfl ?_ | refine o_p rfl rfl ?_
           refine o_p rfl rfl ?_
           refine ow_nil ?_)
        | (refine cw_region (id := 5) ?_
           refine o_p rfl rfl ?_
           refine ow_nil ?_)
        | (refine cw_flow (id := 6) 34 mixed (by kernel_rfl) ?_
           refine f_p rfl rfl ?_
           refine f_p rfl rfl ?_
           first | refine f_k rfl ?_ | refine f_r rfl (rd_load_all rfl (by repeat (first | exact List.Mem.head _ | apply List.Mem.tail)) agg23 (by simp)) ?_ | refine f_r rfl (rd_load_agg rfl (by repeat (first | exact List.Mem.head _ | apply List.Mem.tail)) agg23 (by simp [Value.cells]) (by first | rfl | simp [Value.cells])) ?_
           first | refine f_k rfl ?_ | refine f_r rfl (rd_load_all rfl (by repeat (first | exact List.Mem.head _ | apply List.Mem.tail)) agg23 (by simp)) ?_ | refine f_r rfl (rd_load_agg rfl (by repeat (first | exact List.Mem.head _ | apply List.Mem.tail)) agg23 (by simp [Value.cells]) (by first | rfl | simp [Value.cells])) ?_
           first | refine f_k rfl ?_ | refine f_c rfl rfl rfl en9 rfl (fun s hs => shared_c _ _ _) ?_
           first | refine f_k rfl ?_ | refine f_r rfl (rd_load_all rfl (by repeat (first | exact List.Mem.head _ | apply List.Mem.tail)) agg23 (by simp)) ?_ | refine f_r rfl (rd_load_agg rfl (by repeat (first | exact List.Mem.head _ | apply List.Mem.tail)) agg23 (by simp [Value.cells]) (by first | rfl | simp [Value.cells])) ?_
           first | refine f_k rfl ?_ | refine f_r rfl (rd_load_all rfl (by repeat (first | exact List.Mem.head _ | apply List.Mem.tail)) agg23 (by simp)) ?_ | refine f_r rfl (rd_load_agg rfl (by repeat (first | exact List.Mem.head _ | apply List.Mem.tail)) agg23 (by simp [Value.cells]) (by first | rfl | simp [Value.cells])) ?_
           first | refine f_k rfl ?_ | refine f_c rfl rfl rfl en9 rfl (fun s hs => shared_c _ _ _) ?_
           first | refine f_k rfl ?_ | refine f_r rfl (rd_load_all rfl (by repeat (first | exact List.Mem.head _ | apply List.Mem.tail)) agg23 (by simp)) ?_ | refine f_r rfl (rd_load_agg rfl (by repeat (first | exact List.Mem.head _ | apply List.Mem.tail)) agg23 (by simp [Value.cells]) (by first | rfl | simp [Value.cells])) ?_
           first | refine f_k rfl ?_ | refine f_r rfl (rd_load_all rfl (by repeat (first | exact List.Mem.head _ | apply List.Mem.tail)) agg23 (by simp)) ?_ | refine f_r rfl (rd_load_agg rfl (by repeat (first | exact List.Mem.head _ | apply List.Mem.tail)) agg23 (by simp [Value.cells]) (by first | rfl | simp [Value.cells])) ?_
           first | refine f_k rfl ?_ | refine f_c rfl rfl rfl en9 rfl (fun s hs => shared_c _ _ _) ?_
           first | refine f_k rfl ?_ | refine f_r rfl (rd_min rfl rfl) ?_
           first | refine f_k rfl ?_ | refine f_r rfl (r_cmp rfl rfl rfl (cmp_t (by omega))) ?_ | refine f_r rfl (r_cmp rfl rfl rfl (cmp_f (by omega))) ?_ | refine f_r rfl (r_cmp rfl rfl rfl rfl) ?_
           refine f_p rfl rfl ?_
           refine f_p rfl rfl ?_
           first | refine f_k rfl ?_ | refine f_r rfl (rd_load_all rfl (by repeat (first | exact List.Mem.head _ | apply List.Mem.tail)) agg23 (by simp)) ?_ | refine f_r rfl (rd_load_agg rfl (by repeat (first | exact List.Mem.head _ | apply List.Mem.tail)) agg23 (by simp [Value.cells]) (by first | rfl | simp [Value.cells])) ?_
           first | refine f_k rfl ?_ | refine f_r rfl (rd_load_all rfl (by repeat (first | exact List.Mem.head _ | apply List.Mem.tail)) agg23 (by simp)) ?_ | refine f_r rfl (rd_load_agg rfl (by repeat (first | exact List.Mem.head _ | apply List.Mem.tail)) agg23 (by simp [Value.cells]) (by first | rfl | simp [Value.cells])) ?_
           first | refine f_k rfl ?_ | refine f_c rfl rfl rfl en9 rfl (fun s hs => shared_c _ _ _) ?_
           first | refine f_k rfl ?_ | refine f_r rfl (rd_load_all rfl (by repeat (first | exact List.Mem.head _ | apply List.Mem.tail)) agg23 (by simp)) ?_ | refine f_r rfl (rd_load_agg rfl (by repeat (first | exact List.Mem.head _ | apply List.Mem.tail)) agg23 (by simp [Value.cells]) (by first | rfl | simp [Value.cells])) ?_
           first | refine f_k rfl ?_ | refine f_r rfl (rd_load_all rfl (by repeat (first | exact List.Mem.head _ | apply List.Mem.tail)) agg23 (by simp)) ?_ | refine f_r rfl (rd_load_agg rfl (by repeat (first | exact List.Mem.head _ | apply List.Mem.tail)) agg23 (by simp [Value.cells]) (by first | rfl | simp [Value.cells])) ?_
           first | refine f_k rfl ?_ | refine f_c rfl rfl rfl en9 rfl (fun s hs => shared_c _ _ _) ?_
           first | refine f_k rfl ?_ | refine f_r rfl (r_cmp rfl rfl rfl (cmp_t (by omega))) ?_ | refine f_r rfl (r_cmp rfl rfl rfl (cmp_f (by omega))) ?_ | refine f_r rfl (r_cmp rfl rfl rfl rfl) ?_
           refine f_p rfl rfl ?_
           refine f_p rfl rfl ?_
           first | refine f_k rfl ?_ | refine f_r rfl (rd_load_all rfl (by repeat (first | exact List.Mem.head _ | apply List.Mem.tail)) agg23 (by simp)) ?_ | refine f_r rfl (rd_load_agg rfl (by repeat (first | exact List.Mem.head _ | apply List.Mem.tail)) agg23 (by simp [Value.cells]) (by first | rfl | simp [Value.cells])) ?_
           first | refine f_k rfl ?_ | refine f_r rfl (rd_load_all rfl (by repeat (first | exact List.Mem.head _ | apply List.Mem.tail)) agg23 (by simp)) ?_ | refine f_r rfl (rd_load_agg rfl (by repeat (first | exact List.Mem.head _ | apply List.Mem.tail)) agg23 (by simp [Value.cells]) (by first | rfl | simp [Value.cells])) ?_
           first | refine f_k rfl ?_ | refine f_c rfl rfl rfl en9 rfl (fun s hs => shared_c _ _ _) ?_
           first | refine f_k rfl ?_ | refine f_r rfl (r_cmp rfl rfl rfl (cmp_t (by omega))) ?_ | refine f_r rfl (r_cmp rfl rfl rfl (cmp_f (by omega))) ?_ | refine f_r rfl (r_cmp rfl rfl rfl rfl) ?_
           first | refine f_k rfl ?_ | refine f_r rfl (rd_load_all rfl (by repeat (first | exact List.Mem.head _ | apply List.Mem.tail)) agg23 (by simp)) ?_ | refine f_r rfl (rd_load_agg rfl (by repeat (first | exact List.Mem.head _ | apply List.Mem.tail)) agg23 (by simp [Value.cells]) (by first | rfl | simp [Value.cells])) ?_
           first | refine f_k rfl ?_ | refine f_r rfl (rd_load_all rfl (by repeat (first | exact List.Mem.head _ | apply List.Mem.tail)) agg23 (by simp)) ?_ | refine f_r rfl (rd_load_agg rfl (by repeat (first | exact List.Mem.head _ | apply List.Mem.tail)) agg23 (by simp [Value.cells]) (by first | rfl | simp [Value.cells])) ?_
           first | refine f_k rfl ?_ | refine f_r rfl (rd_eql_agg eg23 rfl rfl (fun w => eqlt23 (by first | rfl | assumption) w)) ?_ | refine f_r rfl (rd_eql_agg eg23 rfl rfl (fun w => eqlf23 (by assumption) w)) ?_ | refine f_r rfl (rd_eql_agg eg23 rfl rfl (fun w => eql23 _ _ w)) ?_
           first | refine f_k rfl ?_ | refine f_r rfl (rd_eql_bool Try.underlying4 rfl rfl rfl) ?_
           refine f_p rfl rfl ?_
           refine f_p rfl rfl ?_
           refine f_end rfl ?_
           repeat (refine end_val ?_)
           refine end_nil ?_
           refine ow_nil ?_))
      exact fin1 (.inl rfl) rfl (res_tmp rfl) (fun v hv => ⟨rfl, hv.below (by simp) (by simp only [keysOf, List.map_cons, List.map_nil, List.forall_mem_cons, List.not_mem_nil, false_imp_iff, implies_true, and_true] <;> omega)⟩)
    · refine enter Try.func3 rfl (Nat.le_of_ble_eq_true rfl) (kn0 w) (vs := [_, _, _]) (fr0 := [(0, _), (1, _), (2, _)]) rfl (n := 78) rfl ?_
      repeat (first
        | refine cw_seq ?_
        | refine cw_block ?_
        | refine cw_skip ?_
        | refine cw_label ?_
        | refine cw_exit ?_
        | refine cw_ret ?_
        | refine qw_then ?_
        | refine qw_block_normal ?_
        | refine qw_block_exit ?_
        | refine qw_block_other rfl ?_
        | refine qw_block_ret ?_
        | refine qw_then_ret ?_
        | refine qw_then_exit ?_
        | refine cw_true rfl ?_
        | refine cw_false rfl ?_
        | refine cw_scope ?_
        | refine qw_scope_normal ?_
        | refine qw_scope_ret ?_
        | refine qw_scope_exit ?_
        | (refine cw_region (id := 0) ?_
           first | (refine o_a rfl (al_box_agg rfl) (fun b3 fb3 => ?_); try simp only [fresh_iff, keysOf, List.map_cons, List.map_nil, List.forall_mem_cons, List.not_mem_nil, false_imp_iff, implies_true, and_true] at fb3) | (refine o_a rfl (al_box rfl) (fun b3 fb3 => ?_); try simp only [fresh_iff, keysOf, List.map_cons, List.map_nil, List.forall_mem_cons, List.not_mem_nil, false_imp_iff, implies_true, and_true] at fb3)
           first | (refine o_a rfl (al_box_agg rfl) (fun b4 fb4 => ?_); try simp only [fresh_iff, keysOf, List.map_cons, List.map_nil, List.forall_mem_cons, List.not_mem_nil, false_imp_iff, implies_true, and_true] at fb4) | (refine o_a rfl (al_box rfl) (fun b4 fb4 => ?_); try simp only [fresh_iff, keysOf, List.map_cons, List.map_nil, List.forall_mem_cons, List.not_mem_nil, false_imp_iff, implies_true, and_true] at fb4)
           first | (refine o_a rfl (al_box_agg rfl) (fun b5 fb5 => ?_); try simp only [fresh_iff, keysOf, List.map_cons, List.map_nil, List.forall_mem_cons, List.not_mem_nil, false_imp_iff, implies_true, and_true] at fb5) | (refine o_a rfl (al_box rfl) (fun b5 fb5 => ?_); try simp only [fresh_iff, keysOf, List.map_cons, List.map_nil, List.forall_mem_cons, List.not_mem_nil, false_imp_iff, implies_true, and_true] at fb5)
           refine o_p rfl rfl ?_
           refine ow_nil ?_)
        | (refine cw_region (id := 1) ?_
           (refine o_c rfl rfl rfl en7 rfl (fun s hs => (alive_c _).mono ?_); rintro e w' ⟨rfl, hb⟩; refine ⟨_, _, _, rfl, hs.grow hb, ?_⟩; clear hb hs w' s)
           refine o_p rfl rfl ?_
           refine ow_nil ?_)
        | (refine cw_flow (id := 2) 22 mixed (by kernel_rfl) ?_
           first | refine f_r rfl (rd_load_all rfl (by repeat (first | exact List.Mem.head _ | apply List.Mem.tail)) agg23 (by simp)) ?_ | refine f_r rfl (rd_load_agg rfl (by repeat (first | exact List.Mem.head _ | apply List.Mem.tail)) agg23 (by simp [Value.cells]) (by first | rfl | simp [Value.cells])) ?_
           first | refine f_r rfl (rd_load_all rfl (by repeat (first | exact List.Mem.head _ | apply List.Mem.tail)) agg23 (by simp)) ?_ | refine f_r rfl (rd_load_agg rfl (by repeat (first | exact List.Mem.head _ | apply List.Mem.tail)) agg23 (by simp [Value.cells]) (by first | rfl | simp [Value.cells])) ?_
           refine f_c rfl rfl rfl en8 rfl (fun s hs => ahead_v _ (by assumption)) ?_
           refine f_p rfl rfl ?_
           first | refine f_k rfl ?_ | refine f_r rfl (rd_load_all rfl (by repeat (first | exact List.Mem.head _ | apply List.Mem.tail)) agg23 (by simp)) ?_ | refine f_r rfl (rd_load_agg rfl (by repeat (first | exact List.Mem.head _ | apply List.Mem.tail)) agg23 (by simp [Value.cells]) (by first | rfl | simp [Value.cells])) ?_
           first | refine f_k rfl ?_ | refine f_r rfl (rd_load_all rfl (by repeat (first | exact List.Mem.head _ | apply List.Mem.tail)) agg23 (by simp)) ?_ | refine f_r rfl (rd_load_agg rfl (by repeat (first | exact List.Mem.head _ | apply List.Mem.tail)) agg23 (by simp [Value.cells]) (by first | rfl | simp [Value.cells])) ?_
           first | refine f_k rfl ?_ | refine f_c rfl rfl rfl en8 rfl (fun s hs => ahead_v _ (by assumption)) ?_
           refine f_p rfl rfl ?_
           refine f_p rfl rfl ?_
           first | refine f_k rfl ?_ | refine f_r rfl (rd_load_all rfl (by repeat (first | exact List.Mem.head _ | apply List.Mem.tail)) agg23 (by simp)) ?_ | refine f_r rfl (rd_load_agg rfl (by repeat (first | exact List.Mem.head _ | apply List.Mem.tail)) agg23 (by simp [Value.cells]) (by first | rfl | simp [Value.cells])) ?_
           first | refine f_k rfl ?_ | refine f_r rfl (rd_load_all rfl (by repeat (first | exact List.Mem.head _ | apply List.Mem.tail)) agg23 (by simp)) ?_ | refine f_r rfl (rd_load_agg rfl (by repeat (first | exact List.Mem.head _ | apply List.Mem.tail)) agg23 (by simp [Value.cells]) (by first | rfl | simp [Value.cells])) ?_
           first | refine f_k rfl ?_ | refine f_r rfl (rd_eql_agg eg23 rfl rfl (fun w => eqlt23 (by first | rfl | assumption) w)) ?_ | refine f_r rfl (rd_eql_agg eg23 rfl rfl (fun w => eqlf23 (by assumption) w)) ?_ | refine f_r rfl (rd_eql_agg eg23 rfl rfl (fun w => eql23 _ _ w)) ?_
           first | refine f_k rfl ?_ | refine f_r rfl (rd_load_all rfl (by repeat (first | exact List.Mem.head _ | apply List.Mem.tail)) agg23 (by simp)) ?_ | refine f_r rfl (rd_load_agg rfl (by repeat (first | exact List.Mem.head _ | apply List.Mem.tail)) agg23 (by simp [Value.cells]) (by first | rfl | simp [Value.cells])) ?_
           first | refine f_k rfl ?_ | refine f_r rfl (rd_load_all rfl (by repeat (first | exact List.Mem.head _ | apply List.Mem.tail)) agg23 (by simp)) ?_ | refine f_r rfl (rd_load_agg rfl (by repeat (first | exact List.Mem.head _ | apply List.Mem.tail)) agg23 (by simp [Value.cells]) (by first | rfl | simp [Value.cells])) ?_
           first | refine f_k rfl ?_ | refine f_c rfl rfl rfl en8 rfl (fun s hs => ahead_v _ (by assumption)) ?_
           first | refine f_k rfl ?_ | refine f_p rfl rfl ?_
           first | refine f_k rfl ?_ | refine f_r rfl (rd_load_all rfl (by repeat (first | exact List.Mem.head _ | apply List.Mem.tail)) agg23 (by simp)) ?_ | refine f_r rfl (rd_load_agg rfl (by repeat (first | exact List.Mem.head _ | apply List.Mem.tail)) agg23 (by simp [Value.cells]) (by first | rfl | simp [Value.cells])) ?_
           first | refine f_k rfl ?_ | refine f_r rfl (rd_load_all rfl (by repeat (first | exact List.Mem.head _ | apply List.Mem.tail)) agg23 (by simp)) ?_ | refine f_r rfl (rd_load_agg rfl (by repeat (first | exact List.Mem.head _ | apply List.Mem.tail)) agg23 (by simp [Value.cells]) (by first | rfl | simp [Value.cells])) ?_
           first | refine f_k rfl ?_ | refine f_c rfl rfl rfl en8 rfl (fun s hs => ahead_v _ (by assumption)) ?_
           first | refine f_k rfl ?_ | refine f_p rfl rfl ?_
           first | refine f_k rfl ?_ | refine f_r rfl (rd_eql_bool Try.underlying4 rfl rfl rfl) ?_
           refine f_p rfl rfl ?_
           refine f_end rfl ?_
           repeat (refine end_val ?_)
           refine end_nil ?_
           refine ow_nil ?_)
        | (refine cw_region (id := 3) ?_
           refine o_p rfl rfl ?_
           refine ow_nil ?_)
        | (refine cw_region (id := 4) ?_
           first | refine o_r rfl (rd_load_all rfl (by repeat (first | exact List.Mem.head _ | apply List.Mem.tail)) agg23 (by simp)) ?_ | refine o_r rfl (rd_load_agg rfl (by repeat (first | exact List.Mem.head _ | apply List.Mem.tail)) agg23 (by simp [Value.cells]) (by first | rfl | simp [Value.cells])) ?_
           first | refine o_r rfl (rd_load_all rfl (by repeat (first | exact List.Mem.head _ | apply List.Mem.tail)) agg23 (by simp)) ?_ | refine o_r rfl (rd_load_agg rfl (by repeat (first | exact List.Mem.head _ | apply List.Mem.tail)) agg23 (by simp [Value.cells]) (by first | rfl | simp [Value.cells])) ?_
           (refine o_c rfl rfl rfl en8 rfl (fun s hs => (ahead_v _ (by assumption)).mono ?_); rintro e w' ⟨rfl, hb⟩; refine ⟨_, _, _, rfl, hs.grow hb, ?_⟩; clear hb hs w' s)
           refine o_p rfl rfl ?_
           first | refine o_k rfl ?_ | refine o_r rfl (rd_load_all rfl (by repeat (first | exact List.Mem.head _ | apply List.Mem.tail)) agg23 (by simp)) ?_ | refine o_r rfl (rd_load_agg rfl (by repeat (first | exact List.Mem.head _ | apply List.Mem.tail)) agg23 (by simp [Value.cells]) (by first | rfl | simp [Value.cells])) ?_
           first | refine o_k rfl ?_ | refine o_r rfl (rd_load_all rfl (by repeat (first | exact List.Mem.head _ | apply List.Mem.tail)) agg23 (by simp)) ?_ | refine o_r rfl (rd_load_agg rfl (by repeat (first | exact List.Mem.head _ | apply List.Mem.tail)) agg23 (by simp [Value.cells]) (by first | rfl | simp [Value.cells])) ?_
           first | refine o_k rfl ?_ | (refine o_c rfl rfl rfl en8 rfl (fun s hs => (ahead_v _ (by assumption)).mono ?_); rintro e w' ⟨rfl, hb⟩; refine ⟨_, _, _, rfl, hs.grow hb, ?_⟩; clear hb hs w' s)
           refine o_p rfl rfl ?_
           refine o_p rfl rfl ?_
           first | refine o_k rfl ?_ | refine o_r rfl (rd_load_all rfl (by repeat (first | exact List.Mem.head _ | apply List.Mem.tail)) agg23 (by simp)) ?_ | refine o_r rfl (rd_load_agg rfl (by repeat (first | exact List.Mem.head _ | apply List.Mem.tail)) agg23 (by simp [Value.cells]) (by first | rfl | simp [Value.cells])) ?_
           first | refine o_k rfl ?_ | refine o_r rfl (rd_load_all rfl (by repeat (first | exact List.Mem.head _ | apply List.Mem.tail)) agg23 (by simp)) ?_ | refine o_r rfl (rd_load_agg rfl (by repeat (first | exact List.Mem.head _ | apply List.Mem.tail)) agg23 (by simp [Value.cells]) (by first | rfl | simp [Value.cells])) ?_
           first | refine o_k rfl ?_ | (refine o_c rfl rfl rfl en8 rfl (fun s hs => (ahead_v _ (by assumption)).mono ?_); rintro e w' ⟨rfl, hb⟩; refine ⟨_, _, _, rfl, hs.grow hb, ?_⟩; clear hb hs w' s)
           first | refine o_k rfl ?_ | refine o_p rfl rfl ?_
           refine o_p rfl rfl ?_
           refine ow_nil ?_)
        | (refine cw_region (id := 5) ?_
           refine o_p rfl rfl ?_
           refine ow_nil ?_)
        | (refine cw_flow (id := 6) 34 mixed (by kernel_rfl) ?_
           refine f_p rfl rfl ?_
           refine f_p rfl rfl ?_
           first | refine f_k rfl ?_ | refine f_r rfl (rd_load_all rfl (by repeat (first | exact List.Mem.head _ | apply List.Mem.tail)) agg23 (by simp)) ?_ | refine f_r rfl (rd_load_agg rfl (by repeat (first | exact List.Mem.head _ | apply List.Mem.tail)) agg23 (by simp [Value.cells]) (by first | rfl | simp [Value.cells])) ?_
           first | refine f_k rfl ?_ | refine f_r rfl (rd_load_all rfl (by repeat (first | exact List.Mem.head _ | apply List.Mem.tail)) agg23 (by simp)) ?_ | refine f_r rfl (rd_load_agg rfl (by repeat (first | exact List.Mem.head _ | apply List.Mem.tail)) agg23 (by simp [Value.cells]) (by first | rfl | simp [Value.cells])) ?_
           first | refine f_k rfl ?_ | refine f_c rfl rfl rfl en9 rfl (fun s hs => shared_c _ _ _) ?_
           first | refine f_k rfl ?_ | refine f_r rfl (rd_load_all rfl (by repeat (first | exact List.Mem.head _ | apply List.Mem.tail)) agg23 (by simp)) ?_ | refine f_r rfl (rd_load_agg rfl (by repeat (first | exact List.Mem.head _ | apply List.Mem.tail)) agg23 (by simp [Value.cells]) (by first | rfl | simp [Value.cells])) ?_
           first | refine f_k rfl ?_ | refine f_r rfl (rd_load_all rfl (by repeat (first | exact List.Mem.head _ | apply List.Mem.tail)) agg23 (by simp)) ?_ | refine f_r rfl (rd_load_agg rfl (by repeat (first | exact List.Mem.head _ | apply List.Mem.tail)) agg23 (by simp [Value.cells]) (by first | rfl | simp [Value.cells])) ?_
           first | refine f_k rfl ?_ | refine f_c rfl rfl rfl en9 rfl (fun s hs => shared_c _ _ _) ?_
           first | refine f_k rfl ?_ | refine f_r rfl (rd_load_all rfl (by repeat (first | exact List.Mem.head _ | apply List.Mem.tail)) agg23 (by simp)) ?_ | refine f_r rfl (rd_load_agg rfl (by repeat (first | exact List.Mem.head _ | apply List.Mem.tail)) agg23 (by simp [Value.cells]) (by first | rfl | simp [Value.cells])) ?_
           first | refine f_k rfl ?_ | refine f_r rfl (rd_load_all rfl (by repeat (first | exact List.Mem.head _ | apply List.Mem.tail)) agg23 (by simp)) ?_ | refine f_r rfl (rd_load_agg rfl (by repeat (first | exact List.Mem.head _ | apply List.Mem.tail)) agg23 (by simp [Value.cells]) (by first | rfl | simp [Value.cells])) ?_
           first | refine f_k rfl ?_ | refine f_c rfl rfl rfl en9 rfl (fun s hs => shared_c _ _ _) ?_
           first | refine f_k rfl ?_ | refine f_r rfl (rd_min rfl rfl) ?_
           first | refine f_k rfl ?_ | refine f_r rfl (r_cmp rfl rfl rfl (cmp_t (by omega))) ?_ | refine f_r rfl (r_cmp rfl rfl rfl (cmp_f (by omega))) ?_ | refine f_r rfl (r_cmp rfl rfl rfl rfl) ?_
           refine f_p rfl rfl ?_
           refine f_p rfl rfl ?_
           first | refine f_k rfl ?_ | refine f_r rfl (rd_load_all rfl (by repeat (first | exact List.Mem.head _ | apply List.Mem.tail)) agg23 (by simp)) ?_ | refine f_r rfl (rd_load_agg rfl (by repeat (first | exact List.Mem.head _ | apply List.Mem.tail)) agg23 (by simp [Value.cells]) (by first | rfl | simp [Value.cells])) ?_
           first | refine f_k rfl ?_ | refine f_r rfl (rd_load_all rfl (by repeat (first | exact List.Mem.head _ | apply List.Mem.tail)) agg23 (by simp)) ?_ | refine f_r rfl (rd_load_agg rfl (by repeat (first | exact List.Mem.head _ | apply List.Mem.tail)) agg23 (by simp [Value.cells]) (by first | rfl | simp [Value.cells])) ?_
           first | refine f_k rfl ?_ | refine f_c rfl rfl rfl en9 rfl (fun s hs => shared_c _ _ _) ?_
           first | refine f_k rfl ?_ | refine f_r rfl (rd_load_all rfl (by repeat (first | exact List.Mem.head _ | apply List.Mem.tail)) agg23 (by simp)) ?_ | refine f_r rfl (rd_load_agg rfl (by repeat (first | exact List.Mem.head _ | apply List.Mem.tail)) agg23 (by simp [Value.cells]) (by first | rfl | simp [Value.cells])) ?_
           first | refine f_k rfl ?_ | refine f_r rfl (rd_load_all rfl (by repeat (first | exact List.Mem.head _ | apply List.Mem.tail)) agg23 (by simp)) ?_ | refine f_r rfl (rd_load_agg rfl (by repeat (first | exact List.Mem.head _ | apply List.Mem.tail)) agg23 (by simp [Value.cells]) (by first | rfl | simp [Value.cells])) ?_
           first | refine f_k rfl ?_ | refine f_c rfl rfl rfl en9 rfl (fun s hs => shared_c _ _ _) ?_
           first | refine f_k rfl ?_ | refine f_r rfl (r_cmp rfl rfl rfl (cmp_t (by omega))) ?_ | refine f_r rfl (r_cmp rfl rfl rfl (cmp_f (by omega))) ?_ | refine f_r rfl (r_cmp rfl rfl rfl rfl) ?_
           refine f_p rfl rfl ?_
           refine f_p rfl rfl ?_
           first | refine f_k rfl ?_ | refine f_r rfl (rd_load_all rfl (by repeat (first | exact List.Mem.head _ | apply List.Mem.tail)) agg23 (by simp)) ?_ | refine f_r rfl (rd_load_agg rfl (by repeat (first | exact List.Mem.head _ | apply List.Mem.tail)) agg23 (by simp [Value.cells]) (by first | rfl | simp [Value.cells])) ?_
           first | refine f_k rfl ?_ | refine f_r rfl (rd_load_all rfl (by repeat (first | exact List.Mem.head _ | apply List.Mem.tail)) agg23 (by simp)) ?_ | refine f_r rfl (rd_load_agg rfl (by repeat (first | exact List.Mem.head _ | apply List.Mem.tail)) agg23 (by simp [Value.cells]) (by first | rfl | simp [Value.cells])) ?_
           first | refine f_k rfl ?_ | refine f_c rfl rfl rfl en9 rfl (fun s hs => shared_c _ _ _) ?_
           first | refine f_k rfl ?_ | refine f_r rfl (r_cmp rfl rfl rfl (cmp_t (by omega))) ?_ | refine f_r rfl (r_cmp rfl rfl rfl (cmp_f (by omega))) ?_ | refine f_r rfl (r_cmp rfl rfl rfl rfl) ?_
           first | refine f_k rfl ?_ | refine f_r rfl (rd_load_all rfl (by repeat (first | exact List.Mem.head _ | apply List.Mem.tail)) agg23 (by simp)) ?_ | refine f_r rfl (rd_load_agg rfl (by repeat (first | exact List.Mem.head _ | apply List.Mem.tail)) agg23 (by simp [Value.cells]) (by first | rfl | simp [Value.cells])) ?_
           first | refine f_k rfl ?_ | refine f_r rfl (rd_load_all rfl (by repeat (first | exact List.Mem.head _ | apply List.Mem.tail)) agg23 (by simp)) ?_ | refine f_r rfl (rd_load_agg rfl (by repeat (first | exact List.Mem.head _ | apply List.Mem.tail)) agg23 (by simp [Value.cells]) (by first | rfl | simp [Value.cells])) ?_
           first | refine f_k rfl ?_ | refine f_r rfl (rd_eql_agg eg23 rfl rfl (fun w => eqlt23 (by first | rfl | assumption) w)) ?_ | refine f_r rfl (rd_eql_agg eg23 rfl rfl (fun w => eqlf23 (by assumption) w)) ?_ | refine f_r rfl (rd_eql_agg eg23 rfl rfl (fun w => eql23 _ _ w)) ?_
           first | refine f_k rfl ?_ | refine f_r rfl (rd_eql_bool Try.underlying4 rfl rfl rfl) ?_
           refine f_p rfl rfl ?_
           refine f_p rfl rfl ?_
           refine f_end rfl ?_
           repeat (refine end_val ?_)
           refine end_nil ?_
           refine ow_nil ?_))
      exact fin1 (.inl rfl) rfl (res_tmp rfl) (fun v hv => ⟨rfl, hv.below (by simp) (by simp only [keysOf, List.map_cons, List.map_nil, List.forall_mem_cons, List.not_mem_nil, false_imp_iff, implies_true, and_true] <;> omega)⟩)
  · clear key2
    refine enter Try.func3 rfl (Nat.le_of_ble_eq_true rfl) (kn0 w) (vs := [_, _, _]) (fr0 := [(0, _), (1, _), (2, _)]) rfl (n := 78) rfl ?_
    repeat (first
      | refine cw_seq ?_
      | refine cw_block ?_
      | refine cw_skip ?_
      | refine cw_label ?_
      | refine cw_exit ?_
      | refine cw_ret ?_
      | refine qw_then ?_
      | refine qw_block_normal ?_
      | refine qw_block_exit ?_
      | refine qw_block_other rfl ?_
      | refine qw_block_ret ?_
      | refine qw_then_ret ?_
      | refine qw_then_exit ?_
      | refine cw_true rfl ?_
      | refine cw_false rfl ?_
      | refine cw_scope ?_
      | refine qw_scope_normal ?_
      | refine qw_scope_ret ?_
      | refine qw_scope_exit ?_
      | (refine cw_region (id := 0) ?_
         first | (refine o_a rfl (al_box_agg rfl) (fun b3 fb3 => ?_); try simp only [fresh_iff, keysOf, List.map_cons, List.map_nil, List.forall_mem_cons, List.not_mem_nil, false_imp_iff, implies_true, and_true] at fb3) | (refine o_a rfl (al_box rfl) (fun b3 fb3 => ?_); try simp only [fresh_iff, keysOf, List.map_cons, List.map_nil, List.forall_mem_cons, List.not_mem_nil, false_imp_iff, implies_true, and_true] at fb3)
         first | (refine o_a rfl (al_box_agg rfl) (fun b4 fb4 => ?_); try simp only [fresh_iff, keysOf, List.map_cons, List.map_nil, List.forall_mem_cons, List.not_mem_nil, false_imp_iff, implies_true, and_true] at fb4) | (refine o_a rfl (al_box rfl) (fun b4 fb4 => ?_); try simp only [fresh_iff, keysOf, List.map_cons, List.map_nil, List.forall_mem_cons, List.not_mem_nil, false_imp_iff, implies_true, and_true] at fb4)
         first | (refine o_a rfl (al_box_agg rfl) (fun b5 fb5 => ?_); try simp only [fresh_iff, keysOf, List.map_cons, List.map_nil, List.forall_mem_cons, List.not_mem_nil, false_imp_iff, implies_true, and_true] at fb5) | (refine o_a rfl (al_box rfl) (fun b5 fb5 => ?_); try simp only [fresh_iff, keysOf, List.map_cons, List.map_nil, List.forall_mem_cons, List.not_mem_nil, false_imp_iff, implies_true, and_true] at fb5)
         refine o_p rfl rfl ?_
         refine ow_nil ?_)
      | (refine cw_region (id := 1) ?_
         (refine o_c rfl rfl rfl en7 rfl (fun s hs => (alive_c _).mono ?_); rintro e w' ⟨rfl, hb⟩; refine ⟨_, _, _, rfl, hs.grow hb, ?_⟩; clear hb hs w' s)
         refine o_p rfl rfl ?_
         refine ow_nil ?_)
      | (refine cw_flow (id := 2) 22 mixed (by kernel_rfl) ?_
         first | refine f_r rfl (rd_load_all rfl (by repeat (first | exact List.Mem.head _ | apply List.Mem.tail)) agg23 (by simp)) ?_ | refine f_r rfl (rd_load_agg rfl (by repeat (first | exact List.Mem.head _ | apply List.Mem.tail)) agg23 (by simp [Value.cells]) (by first | rfl | simp [Value.cells])) ?_
         first | refine f_r rfl (rd_load_all rfl (by repeat (first | exact List.Mem.head _ | apply List.Mem.tail)) agg23 (by simp)) ?_ | refine f_r rfl (rd_load_agg rfl (by repeat (first | exact List.Mem.head _ | apply List.Mem.tail)) agg23 (by simp [Value.cells]) (by first | rfl | simp [Value.cells])) ?_
         refine f_c rfl rfl rfl en8 rfl (fun s hs => ahead_v _ (by assumption)) ?_
         refine f_p rfl rfl ?_
         first | refine f_k rfl ?_ | refine f_r rfl (rd_load_all rfl (by repeat (first | exact List.Mem.head _ | apply List.Mem.tail)) agg23 (by simp)) ?_ | refine f_r rfl (rd_load_agg rfl (by repeat (first | exact List.Mem.head _ | apply List.Mem.tail)) agg23 (by simp [Value.cells]) (by first | rfl | simp [Value.cells])) ?_
         first | refine f_k rfl ?_ | refine f_r rfl (rd_load_all rfl (by repeat (first | exact List.Mem.head _ | apply List.Mem.tail)) agg23 (by simp)) ?_ | refine f_r rfl (rd_load_agg rfl (by repeat (first | exact List.Mem.head _ | apply List.Mem.tail)) agg23 (by simp [Value.cells]) (by first | rfl | simp [Value.cells])) ?_
         first | refine f_k rfl ?_ | refine f_c rfl rfl rfl en8 rfl (fun s hs => ahead_v _ (by assumption)) ?_
         refine f_p rfl rfl ?_
         refine f_p rfl rfl ?_
         first | refine f_k rfl ?_ | refine f_r rfl (rd_load_all rfl (by repeat (first | exact List.Mem.head _ | apply List.Mem.tail)) agg23 (by simp)) ?_ | refine f_r rfl (rd_load_agg rfl (by repeat (first | exact List.Mem.head _ | apply List.Mem.tail)) agg23 (by simp [Value.cells]) (by first | rfl | simp [Value.cells])) ?_
         first | refine f_k rfl ?_ | refine f_r rfl (rd_load_all rfl (by repeat (first | exact List.Mem.head _ | apply List.Mem.tail)) agg23 (by simp)) ?_ | refine f_r rfl (rd_load_agg rfl (by repeat (first | exact List.Mem.head _ | apply List.Mem.tail)) agg23 (by simp [Value.cells]) (by first | rfl | simp [Value.cells])) ?_
         first | refine f_k rfl ?_ | refine f_r rfl (rd_eql_agg eg23 rfl rfl (fun w => eqlt23 (by first | rfl | assumption) w)) ?_ | refine f_r rfl (rd_eql_agg eg23 rfl rfl (fun w => eqlf23 (by assumption) w)) ?_ | refine f_r rfl (rd_eql_agg eg23 rfl rfl (fun w => eql23 _ _ w)) ?_
         first | refine f_k rfl ?_ | refine f_r rfl (rd_load_all rfl (by repeat (first | exact List.Mem.head _ | apply List.Mem.tail)) agg23 (by simp)) ?_ | refine f_r rfl (rd_load_agg rfl (by repeat (first | exact List.Mem.head _ | apply List.Mem.tail)) agg23 (by simp [Value.cells]) (by first | rfl | simp [Value.cells])) ?_
         first | refine f_k rfl ?_ | refine f_r rfl (rd_load_all rfl (by repeat (first | exact List.Mem.head _ | apply List.Mem.tail)) agg23 (by simp)) ?_ | refine f_r rfl (rd_load_agg rfl (by repeat (first | exact List.Mem.head _ | apply List.Mem.tail)) agg23 (by simp [Value.cells]) (by first | rfl | simp [Value.cells])) ?_
         first | refine f_k rfl ?_ | refine f_c rfl rfl rfl en8 rfl (fun s hs => ahead_v _ (by assumption)) ?_
         first | refine f_k rfl ?_ | refine f_p rfl rfl ?_
         first | refine f_k rfl ?_ | refine f_r rfl (rd_load_all rfl (by repeat (first | exact List.Mem.head _ | apply List.Mem.tail)) agg23 (by simp)) ?_ | refine f_r rfl (rd_load_agg rfl (by repeat (first | exact List.Mem.head _ | apply List.Mem.tail)) agg23 (by simp [Value.cells]) (by first | rfl | simp [Value.cells])) ?_
         first | refine f_k rfl ?_ | refine f_r rfl (rd_load_all rfl (by repeat (first | exact List.Mem.head _ | apply List.Mem.tail)) agg23 (by simp)) ?_ | refine f_r rfl (rd_load_agg rfl (by repeat (first | exact List.Mem.head _ | apply List.Mem.tail)) agg23 (by simp [Value.cells]) (by first | rfl | simp [Value.cells])) ?_
         first | refine f_k rfl ?_ | refine f_c rfl rfl rfl en8 rfl (fun s hs => ahead_v _ (by assumption)) ?_
         first | refine f_k rfl ?_ | refine f_p rfl rfl ?_
         first | refine f_k rfl ?_ | refine f_r rfl (rd_eql_bool Try.underlying4 rfl rfl rfl) ?_
         refine f_p rfl rfl ?_
         refine f_end rfl ?_
         repeat (refine end_val ?_)
         refine end_nil ?_
         refine ow_nil ?_)
      | (refine cw_region (id := 3) ?_
         refine o_p rfl rfl ?_
         refine ow_nil ?_)
      | (refine cw_region (id := 4) ?_
         first | refine o_r rfl (rd_load_all rfl (by repeat (first | exact List.Mem.head _ | apply List.Mem.tail)) agg23 (by simp)) ?_ | refine o_r rfl (rd_load_agg rfl (by repeat (first | exact List.Mem.head _ | apply List.Mem.tail)) agg23 (by simp [Value.cells]) (by first | rfl | simp [Value.cells])) ?_
         first | refine o_r rfl (rd_load_all rfl (by repeat (first | exact List.Mem.head _ | apply List.Mem.tail)) agg23 (by simp)) ?_ | refine o_r rfl (rd_load_agg rfl (by repeat (first | exact List.Mem.head _ | apply List.Mem.tail)) agg23 (by simp [Value.cells]) (by first | rfl | simp [Value.cells])) ?_
         (refine o_c rfl rfl rfl en8 rfl (fun s hs => (ahead_v _ (by assumption)).mono ?_); rintro e w' ⟨rfl, hb⟩; refine ⟨_, _, _, rfl, hs.grow hb, ?_⟩; clear hb hs w' s)
         refine o_p rfl rfl ?_
         first | refine o_k rfl ?_ | refine o_r rfl (rd_load_all rfl (by repeat (first | exact List.Mem.head _ | apply List.Mem.tail)) agg23 (by simp)) ?_ | refine o_r rfl (rd_load_agg rfl (by repeat (first | exact List.Mem.head _ | apply List.Mem.tail)) agg23 (by simp [Value.cells]) (by first | rfl | simp [Value.cells])) ?_
         first | refine o_k rfl ?_ | refine o_r rfl (rd_load_all rfl (by repeat (first | exact List.Mem.head _ | apply List.Mem.tail)) agg23 (by simp)) ?_ | refine o_r rfl (rd_load_agg rfl (by repeat (first | exact List.Mem.head _ | apply List.Mem.tail)) agg23 (by simp [Value.cells]) (by first | rfl | simp [Value.cells])) ?_
         first | refine o_k rfl ?_ | (refine o_c rfl rfl rfl en8 rfl (fun s hs => (ahead_v _ (by assumption)).mono ?_); rintro e w' ⟨rfl, hb⟩; refine ⟨_, _, _, rfl, hs.grow hb, ?_⟩; clear hb hs w' s)
         refine o_p rfl rfl ?_
         refine o_p rfl rfl ?_
         first | refine o_k rfl ?_ | refine o_r rfl (rd_load_all rfl (by repeat (first | exact List.Mem.head _ | apply List.Mem.tail)) agg23 (by simp)) ?_ | refine o_r rfl (rd_load_agg rfl (by repeat (first | exact List.Mem.head _ | apply List.Mem.tail)) agg23 (by simp [Value.cells]) (by first | rfl | simp [Value.cells])) ?_
         first | refine o_k rfl ?_ | refine o_r rfl (rd_load_all rfl (by repeat (first | exact List.Mem.head _ | apply List.Mem.tail)) agg23 (by simp)) ?_ | refine o_r rfl (rd_load_agg rfl (by repeat (first | exact List.Mem.head _ | apply List.Mem.tail)) agg23 (by simp [Value.cells]) (by first | rfl | simp [Value.cells])) ?_
         first | refine o_k rfl ?_ | (refine o_c rfl rfl rfl en8 rfl (fun s hs => (ahead_v _ (by assumption)).mono ?_); rintro e w' ⟨rfl, hb⟩; refine ⟨_, _, _, rfl, hs.grow hb, ?_⟩; clear hb hs w' s)
         first | refine o_k rfl ?_ | refine o_p rfl rfl ?_
         refine o_p rfl rfl ?_
         refine ow_nil ?_)
      | (refine cw_region (id := 5) ?_
         refine o_p rfl rfl ?_
         refine ow_nil ?_)
      | (refine cw_flow (id := 6) 34 mixed (by kernel_rfl) ?_
         refine f_p rfl rfl ?_
         refine f_p rfl rfl ?_
         first | refine f_k rfl ?_ | refine f_r rfl (rd_load_all rfl (by repeat (first | exact List.Mem.head _ | apply List.Mem.tail)) agg23 (by simp)) ?_ | refine f_r rfl (rd_load_agg rfl (by repeat (first | exact List.Mem.head _ | apply List.Mem.tail)) agg23 (by simp [Value.cells]) (by first | rfl | simp [Value.cells])) ?_
         first | refine f_k rfl ?_ | refine f_r rfl (rd_load_all rfl (by repeat (first | exact List.Mem.head _ | apply List.Mem.tail)) agg23 (by simp)) ?_ | refine f_r rfl (rd_load_agg rfl (by repeat (first | exact List.Mem.head _ | apply List.Mem.tail)) agg23 (by simp [Value.cells]) (by first | rfl | simp [Value.cells])) ?_
         first | refine f_k rfl ?_ | refine f_c rfl rfl rfl en9 rfl (fun s hs => shared_c _ _ _) ?_
         first | refine f_k rfl ?_ | refine f_r rfl (rd_load_all rfl (by repeat (first | exact List.Mem.head _ | apply List.Mem.tail)) agg23 (by simp)) ?_ | refine f_r rfl (rd_load_agg rfl (by repeat (first | exact List.Mem.head _ | apply List.Mem.tail)) agg23 (by simp [Value.cells]) (by first | rfl | simp [Value.cells])) ?_
         first | refine f_k rfl ?_ | refine f_r rfl (rd_load_all rfl (by repeat (first | exact List.Mem.head _ | apply List.Mem.tail)) agg23 (by simp)) ?_ | refine f_r rfl (rd_load_agg rfl (by repeat (first | exact List.Mem.head _ | apply List.Mem.tail)) agg23 (by simp [Value.cells]) (by first | rfl | simp [Value.cells])) ?_
         first | refine f_k rfl ?_ | refine f_c rfl rfl rfl en9 rfl (fun s hs => shared_c _ _ _) ?_
         first | refine f_k rfl ?_ | refine f_r rfl (rd_load_all rfl (by repeat (first | exact List.Mem.head _ | apply List.Mem.tail)) agg23 (by simp)) ?_ | refine f_r rfl (rd_load_agg rfl (by repeat (first | exact List.Mem.head _ | apply List.Mem.tail)) agg23 (by simp [Value.cells]) (by first | rfl | simp [Value.cells])) ?_
         first | refine f_k rfl ?_ | refine f_r rfl (rd_load_all rfl (by repeat (first | exact List.Mem.head _ | apply List.Mem.tail)) agg23 (by simp)) ?_ | refine f_r rfl (rd_load_agg rfl (by repeat (first | exact List.Mem.head _ | apply List.Mem.tail)) agg23 (by simp [Value.cells]) (by first | rfl | simp [Value.cells])) ?_
         first | refine f_k rfl ?_ | refine f_c rfl rfl rfl en9 rfl (fun s hs => shared_c _ _ _) ?_
         first | refine f_k rfl ?_ | refine f_r rfl (rd_min rfl rfl) ?_
         first | refine f_k rfl ?_ | refine f_r rfl (r_cmp rfl rfl rfl (cmp_t (by omega))) ?_ | refine f_r rfl (r_cmp rfl rfl rfl (cmp_f (by omega))) ?_ | refine f_r rfl (r_cmp rfl rfl rfl rfl) ?_
         refine f_p rfl rfl ?_
         refine f_p rfl rfl ?_
         first | refine f_k rfl ?_ | refine f_r rfl (rd_load_all rfl (by repeat (first | exact List.Mem.head _ | apply List.Mem.tail)) agg23 (by simp)) ?_ | refine f_r rfl (rd_load_agg rfl (by repeat (first | exact List.Mem.head _ | apply List.Mem.tail)) agg23 (by simp [Value.cells]) (by first | rfl | simp [Value.cells])) ?_
         first | refine f_k rfl ?_ | refine f_r rfl (rd_load_all rfl (by repeat (first | exact List.Mem.head _ | apply List.Mem.tail)) agg23 (by simp)) ?_ | refine f_r rfl (rd_load_agg rfl (by repeat (first | exact List.Mem.head _ | apply List.Mem.tail)) agg23 (by simp [Value.cells]) (by first | rfl | simp [Value.cells])) ?_
         first | refine f_k rfl ?_ | refine f_c rfl rfl rfl en9 rfl (fun s hs => shared_c _ _ _) ?_
         first | refine f_k rfl ?_ | refine f_r rfl (rd_load_all rfl (by repeat (first | exact List.Mem.head _ | apply List.Mem.tail)) agg23 (by simp)) ?_ | refine f_r rfl (rd_load_agg rfl (by repeat (first | exact List.Mem.head _ | apply List.Mem.tail)) agg23 (by simp [Value.cells]) (by first | rfl | simp [Value.cells])) ?_
         first | refine f_k rfl ?_ | refine f_r rfl (rd_load_all rfl (by repeat (first | exact List.Mem.head _ | apply List.Mem.tail)) agg23 (by simp)) ?_ | refine f_r rfl (rd_load_agg rfl (by repeat (first | exact List.Mem.head _ | apply List.Mem.tail)) agg23 (by simp [Value.cells]) (by first | rfl | simp [Value.cells])) ?_
         first | refine f_k rfl ?_ | refine f_c rfl rfl rfl en9 rfl (fun s hs => shared_c _ _ _) ?_
         first | refine f_k rfl ?_ | refine f_r rfl (r_cmp rfl rfl rfl (cmp_t (by omega))) ?_ | refine f_r rfl (r_cmp rfl rfl rfl (cmp_f (by omega))) ?_ | refine f_r rfl (r_cmp rfl rfl rfl rfl) ?_
         refine f_p rfl rfl ?_
         refine f_p rfl rfl ?_
         first | refine f_k rfl ?_ | refine f_r rfl (rd_load_all rfl (by repeat (first | exact List.Mem.head _ | apply List.Mem.tail)) agg23 (by simp)) ?_ | refine f_r rfl (rd_load_agg rfl (by repeat (first | exact List.Mem.head _ | apply List.Mem.tail)) agg23 (by simp [Value.cells]) (by first | rfl | simp [Value.cells])) ?_
         first | refine f_k rfl ?_ | refine f_r rfl (rd_load_all rfl (by repeat (first | exact List.Mem.head _ | apply List.Mem.tail)) agg23 (by simp)) ?_ | refine f_r rfl (rd_load_agg rfl (by repeat (first | exact List.Mem.head _ | apply List.Mem.tail)) agg23 (by simp [Value.cells]) (by first | rfl | simp [Value.cells])) ?_
         first | refine f_k rfl ?_ | refine f_c rfl rfl rfl en9 rfl (fun s hs => shared_c _ _ _) ?_
         first | refine f_k rfl ?_ | refine f_r rfl (r_cmp rfl rfl rfl (cmp_t (by omega))) ?_ | refine f_r rfl (r_cmp rfl rfl rfl (cmp_f (by omega))) ?_ | refine f_r rfl (r_cmp rfl rfl rfl rfl) ?_
         first | refine f_k rfl ?_ | refine f_r rfl (rd_load_all rfl (by repeat (first | exact List.Mem.head _ | apply List.Mem.tail)) agg23 (by simp)) ?_ | refine f_r rfl (rd_load_agg rfl (by repeat (first | exact List.Mem.head _ | apply List.Mem.tail)) agg23 (by simp [Value.cells]) (by first | rfl | simp [Value.cells])) ?_
         first | refine f_k rfl ?_ | refine f_r rfl (rd_load_all rfl (by repeat (first | exact List.Mem.head _ | apply List.Mem.tail)) agg23 (by simp)) ?_ | refine f_r rfl (rd_load_agg rfl (by repeat (first | exact List.Mem.head _ | apply List.Mem.tail)) agg23 (by simp [Value.cells]) (by first | rfl | simp [Value.cells])) ?_
         first | refine f_k rfl ?_ | refine f_r rfl (rd_eql_agg eg23 rfl rfl (fun w => eqlt23 (by first | rfl | assumption) w)) ?_ | refine f_r rfl (rd_eql_agg eg23 rfl rfl (fun w => eqlf23 (by assumption) w)) ?_ | refine f_r rfl (rd_eql_agg eg23 rfl rfl (fun w => eql23 _ _ w)) ?_
         first | refine f_k rfl ?_ | refine f_r rfl (rd_eql_bool Try.underlying4 rfl rfl rfl) ?_
         refine f_p rfl rfl ?_
         refine f_p rfl rfl ?_
         refine f_end rfl ?_
         repeat (refine end_val ?_)
         refine end_nil ?_
         refine ow_nil ?_))
    exact fin1 (.inl rfl) rfl (res_tmp rfl) (fun v hv => ⟨rfl, hv.below (by simp) (by simp only [keysOf, List.map_cons, List.map_nil, List.forall_mem_cons, List.not_mem_nil, false_imp_iff, implies_true, and_true] <;> omega)⟩)
end Go.Proofs.Ytnlhkpdclnhneaa

import Derived.Test.YtnlhkpdclnhneaaPathA
import Derived.Test.YtnlhkpdclnhneaaIter
namespace Go.Proofs.Ytnlhkpdclnhneaa
open Go.RowKit
attribute [local irreducible] Go.Calls
/-! the length of a byte -/
@[irreducible] def lenM (x : Nat) : Nat := if x = 0 then 0 else Nat.log2 x + 1
theorem lenM_le (x : Nat) (hx : x ≤ 255) : lenM x ≤ 8 := by
  have h : ∀ x, x ≤ 255 → lenM x ≤ 8 := by decide +kernel
  exact h x hx
theorem len_tab (s : ByteArray) (h : (List.range 256).all (fun x => s[x]? == some (UInt8.ofNat (lenM x))) = true) (x : Nat) (hx : x ≤ 255) : s[(x : Int).toNat]? = some (UInt8.ofNat (lenM x)) := by
  rw [Int.toNat_natCast]
  have := List.all_eq_true.1 h x (List.mem_range.2 (by omega))
  simpa using this
theorem len_i64 (x : Nat) (hx : x ≤ 255) : IntKind.i64.wrap ((UInt8.ofNat (lenM x)).toNat : Int) = (lenM x : Int) := by
  have h := lenM_le x hx
  have e : (UInt8.ofNat (lenM x)).toNat = lenM x := by simp; omega
  rw [e]; exact IntWalk.i64_in _ (by omega)
theorem len8_c (x : Nat) (w : World) (hx : x ≤ 255) : Calls Try.prog 21 #[.int .u8 x] w fun e w' => e = .returned (.int .i64 (lenM x)) ∧ Below w.heap.size w w' := by
  have ht := len_i64 x hx
  refine enter Try.func21 rfl (Nat.le_of_ble_eq_true rfl) (kn0 w) (vs := [_]) (fr0 := [(0, _)]) rfl (n := 6) rfl ?_
  repeat (first
    | refine cw_seq ?_
    | refine cw_block ?_
    | refine cw_skip ?_
    | refine cw_label ?_
    | refine cw_exit ?_
    | refine cw_ret ?_
    | refine qw_then ?_
    | refine qw_block_normal ?_
    | refine qw_block_exit ?_
    | refine qw_block_other rfl ?_
    | refine qw_block_ret ?_
    | refine qw_then_ret ?_
    | refine qw_then_exit ?_
    | refine cw_true rfl ?_
    | refine cw_false rfl ?_
    | refine cw_scope ?_
    | refine qw_scope_normal ?_
    | refine qw_scope_ret ?_
    | refine qw_scope_exit ?_
    | (refine cw_region (id := 0) ?_
       refine o_p rfl rfl ?_
       refine ow_nil ?_)
    | (refine cw_region (id := 1) ?_
       refine o_p rfl rfl ?_
       refine o_r rfl (rd_index_str (b := UInt8.ofNat (lenM x)) Try.underlying9 rfl rfl (by omega) (len_tab _ (by kernel_rfl) x hx)) ?_
       refine o_r rfl (rd_convert Try.underlying5 Try.underlying3 rfl ht) ?_
       refine o_p rfl rfl ?_
       refine ow_nil ?_))
  exact fin1 (.inl rfl) rfl (res_tmp rfl) (fun v hv => ⟨rfl, hv.below (by simp) (by simp only [keysOf, List.map_cons, List.map_nil, List.forall_mem_cons, List.not_mem_nil, false_imp_iff, implies_true, and_true] <;> omega)⟩)
theorem lz8_c (x : Nat) (w : World) (hx : x ≤ 255) : Calls Try.prog 18 #[.int .u8 x] w fun e w' => e = .returned (.int .i64 (8 - lenM x : Int)) ∧ Below w.heap.size w w' := by
  have ht := lenM_le x hx
  refine enter Try.func18 rfl (Nat.le_of_ble_eq_true rfl) (kn0 w) (vs := [_]) (fr0 := [(0, _)]) rfl (n := 6) rfl ?_
  repeat (first
    | refine cw_seq ?_
    | refine cw_block ?_
    | refine cw_skip ?_
    | refine cw_label ?_
    | refine cw_exit ?_
    | refine cw_ret ?_
    | refine qw_then ?_
    | refine qw_block_normal ?_
    | refine qw_block_exit ?_
    | refine qw_block_other rfl ?_
    | refine qw_block_ret ?_
    | refine qw_then_ret ?_
    | refine qw_then_exit ?_
    | refine cw_true rfl ?_
    | refine cw_false rfl ?_
    | refine cw_scope ?_
    | refine qw_scope_normal ?_
    | refine qw_scope_ret ?_
    | refine qw_scope_exit ?_
    | (refine cw_region (id := 0) ?_
       refine o_p rfl rfl ?_
       refine ow_nil ?_)
    | (refine cw_region (id := 1) ?_
       refine o_p rfl rfl ?_
       (refine o_c rfl rfl rfl en21 rfl (fun s hs => (len8_c _ _ (by omega)).mono ?_); rintro e w' ⟨rfl, hb⟩; refine ⟨_, _, _, rfl, hs.grow hb, ?_⟩; clear hb hs w' s)
       first | refine o_r rfl (r_ar rfl rfl rfl (IntWalk.i64_in _ (by omega))) ?_ | refine o_r rfl (r_ar rfl rfl rfl rfl) ?_
       refine o_p rfl rfl ?_
       refine ow_nil ?_))
  exact fin1 (.inl rfl) rfl (res_tmp rfl) (fun v hv => ⟨rfl, hv.below (by simp) (by simp only [keysOf, List.map_cons, List.map_nil, List.forall_mem_cons, List.not_mem_nil, false_imp_iff, implies_true, and_true] <;> omega)⟩)

/-! the bytes that differ -/
def dOf (a b : Dig) (i : Nat) : Nat × Nat := (i, kn a i ^^^ kn b i)
@[irreducible] def dTo (a b : Dig) (n : Nat) : List (Nat × Nat) := ((List.range n).map (dOf a b)).filter (fun p => p.2 != 0)
def encD (x : Nat × Nat) : Array Value := #[.int .i64 x.1, .int .u8 x.2]
theorem dTo_zero (a b : Dig) : (dTo a b 0).length = 0 := by unfold dTo; rfl
theorem dTo_succ (a b : Dig) (n : Nat) : dTo a b (n + 1) = dTo a b n ++ (if kn a n ^^^ kn b n = 0 then [] else [dOf a b n]) := by
  unfold dTo
  rw [List.range_succ, List.map_append, List.filter_append]
  congr 1
  simp only [List.map_cons, List.map_nil, List.filter_cons, List.filter_nil, dOf]
  split <;> split <;> simp_all
theorem dTo_pre (a b : Dig) (n m : Nat) : dTo a b n <+: dTo a b (n + m) := by
  induction m with
  | zero => exact List.prefix_refl _
  | succ m ih => rw [← Nat.add_assoc, dTo_succ]; exact ih.trans (List.prefix_append _ _)
theorem dTo_get (a b : Dig) (i n : Nat) (hi : i < n) (hx : kn a i ^^^ kn b i ≠ 0) : (dTo a b n)[(dTo a b i).length]? = some (dOf a b i) := by
  obtain ⟨m, rfl⟩ : ∃ m, n = (i + 1) + m := ⟨n - (i + 1), by omega⟩
  obtain ⟨l, hl⟩ := dTo_pre a b (i + 1) m
  rw [← hl, dTo_succ, if_neg hx]
  simp
theorem dTo_mem {a b : Dig} {n : Nat} {x : Nat × Nat} (h : x ∈ dTo a b n) : x.1 < n ∧ x.2 = kn a x.1 ^^^ kn b x.1 ∧ x.2 ≠ 0 := by
  unfold dTo at h
  rw [List.mem_filter, List.mem_map] at h
  obtain ⟨⟨i, hi, rfl⟩, h2⟩ := h
  exact ⟨List.mem_range.1 hi, rfl, by simpa using h2⟩
theorem cell_dig {s : World} {B : Nat} {t : TypeId} {f : Nat × Nat} {k : Dig} (h : s.heap[B]? = some (.cells (dv k) t f)) {i : Nat} (hi : i < 32) : s.cell? ⟨B, ((i : Nat) : Int).toNat, none⟩ = some (.int .u8 (kn k i)) := by
  simp [World.cell?, h, dv_get k hi]
theorem heap_lt {s : World} {B : Nat} {o : Obj} (h : s.heap[B]? = some o) : B < s.heap.size := (Array.getElem?_eq_some_iff.1 h).1
theorem ne_bool (m : Nat) (h : ¬ m = 0) : decide (cmpP .neq (m : Int) 0) = true := decide_eq_true (by show ¬ _; omega)

theorem apart_c (a b : Dig) (w : World) : Calls Try.prog 17 #[.agg (dv a), .agg (dv b)] w fun e w' =>
    ∃ Ba Bb, e = .returned (.func (.func 20) #[] #[.pointer (some ⟨Ba, 0, none⟩), .pointer (some ⟨Bb, 0, none⟩)]) ∧ w.heap.size ≤ Ba ∧ w.heap.size ≤ Bb ∧ w'.heap[Ba]? = some (.cells (dv a) 23 (0, 0)) ∧ w'.heap[Bb]? = some (.cells (dv b) 23 (0, 0)) ∧ Below w.heap.size w w' := by
  refine enter Try.func17 rfl (Nat.le_of_ble_eq_true rfl) (kn0 w) (vs := [_, _]) (fr0 := [(0, _), (1, _)]) rfl (n := 6) rfl ?_
  repeat (first
    | refine cw_seq ?_
    | refine cw_block ?_
    | refine cw_skip ?_
    | refine cw_label ?_
    | refine cw_exit ?_
    | refine cw_ret ?_
    | refine qw_then ?_
    | refine qw_block_normal ?_
    | refine qw_block_exit ?_
    | refine qw_block_other rfl ?_
    | refine qw_block_ret ?_
    | refine qw_then_ret ?_
    | refine qw_then_exit ?_
    | refine cw_true rfl ?_
    | refine cw_false rfl ?_
    | refine cw_scope ?_
    | refine qw_scope_normal ?_
    | refine qw_scope_ret ?_
    | refine qw_scope_exit ?_
    | (refine cw_region (id := 0) ?_
       first | (refine o_a rfl (al_box_agg rfl) (fun b2 fb2 => ?_); try simp only [fresh_iff, keysOf, List.map_cons, List.map_nil, List.forall_mem_cons, List.not_mem_nil, false_imp_iff, implies_true, and_true] at fb2) | (refine o_a rfl (al_box rfl) (fun b2 fb2 => ?_); try simp only [fresh_iff, keysOf, List.map_cons, List.map_nil, List.forall_mem_cons, List.not_mem_nil, false_imp_iff, implies_true, and_true] at fb2)
       first | (refine o_a rfl (al_box_agg rfl) (fun b3 fb3 => ?_); try simp only [fresh_iff, keysOf, List.map_cons, List.map_nil, List.forall_mem_cons, List.not_mem_nil, false_imp_iff, implies_true, and_true] at fb3) | (refine o_a rfl (al_box rfl) (fun b3 fb3 => ?_); try simp only [fresh_iff, keysOf, List.map_cons, List.map_nil, List.forall_mem_cons, List.not_mem_nil, false_imp_iff, implies_true, and_true] at fb3)
       refine o_p rfl rfl ?_
       refine ow_nil ?_)
    | (refine cw_region (id := 1) ?_
       refine o_p rfl rfl ?_
       refine o_p rfl rfl ?_
       refine ow_nil ?_))
  exact fin1 (.inl rfl) rfl (res_tmp rfl) (fun v hv => ⟨b2, b3, rfl, by omega, by omega, hv.has _ _ (by repeat (first | exact List.Mem.head _ | apply List.Mem.tail)), hv.has _ _ (by repeat (first | exact List.Mem.head _ | apply List.Mem.tail)), hv.below (by simp) (by simp only [keysOf, List.map_cons, List.map_nil, List.forall_mem_cons, List.not_mem_nil, false_imp_iff, implies_true, and_true] <;> omega)⟩)

theorem apart_it (a b : Dig) (Ba Bb : Nat) (ta tb : TypeId) (fa fb : Nat × Nat) (W0 : World) (ha : W0.heap[Ba]? = some (.cells (dv a) ta fa)) (hb : W0.heap[Bb]? = some (.cells (dv b) tb fb)) :
    IterC Try.prog 20 #[.pointer (some ⟨Ba, 0, none⟩), .pointer (some ⟨Bb, 0, none⟩)] encD (fun k => k = Ba ∨ k = Bb) (dTo a b 32) W0 := by
  intro l X J Jx W hW hX hJ hJx hy h0
  have hXa : Ba ∉ X := fun h => (hX _ h).2 (.inl rfl)
  have hXb : Bb ∉ X := fun h => (hX _ h).2 (.inr rfl)
  have hWa : W.heap[Ba]? = some (.cells (dv a) ta fa) := by rw [hW.block _ (heap_lt ha)]; exact ha
  have hWb : W.heap[Bb]? = some (.cells (dv b) tb fb) := by rw [hW.block _ (heap_lt hb)]; exact hb
  show Calls _ _ #[_, _, _] _ _
  refine enter Try.func20 rfl (Nat.le_of_ble_eq_true rfl) (kn0 W) (vs := [_, _, _]) (fr0 := [(0, _), (1, _), (2, _)]) rfl (n := 26) rfl ?_
  repeat (first
    | refine cw_seq ?_
    | refine cw_block ?_
    | refine cw_skip ?_
    | refine cw_label ?_
    | refine cw_exit ?_
    | refine cw_ret ?_
    | refine qw_then ?_
    | refine qw_block_normal ?_
    | refine qw_block_exit ?_
    | refine qw_block_other rfl ?_
    | refine qw_block_ret ?_
    | refine qw_then_ret ?_
    | refine qw_then_exit ?_
    | refine cw_true rfl ?_
    | refine cw_false rfl ?_
    | refine cw_scope ?_
    | refine qw_scope_normal ?_
    | refine qw_scope_ret ?_
    | refine qw_scope_exit ?_
    | (refine cw_region (id := 0) ?_
       refine o_p rfl rfl ?_
       refine ow_nil ?_))
  refine cw_loop (fun x : Nat × World => x.1 ≤ 32 ∧ x.2.heap[Ba]? = some (.cells (dv a) ta fa) ∧ x.2.heap[Bb]? = some (.cells (dv b) tb fb) ∧ J (dTo a b x.1).length x.2 ∧ Keep X W x.2)
    (fun x => [(6, .int .i64 (x.1 : Int)), (0, .func (.yield l) #[] #[]), (1, .pointer (some ⟨Ba, 0, none⟩)), (2, .pointer (some ⟨Bb, 0, none⟩))]) (fun _ => []) (fun x => [x.2]) (fun x => 32 - x.1) (0, W)
    ⟨by omega, hWa, hWb, by show J (dTo a b 0).length W; rw [dTo_zero]; exact h0, Keep.refl _ _⟩ (by repeat (first | exact trivial | refine ⟨rfl, ?_⟩)) rfl rfl ?_
  rintro ⟨i, s⟩ ⟨hi, hsa, hsb, hJs, hKs⟩
  simp only at hi hsa hsb hJs hKs
  by_cases hi32 : i < 32
  · have hca := cell_dig hsa hi32
    have hcb := cell_dig hsb hi32
    have hla := kn_le a i
    have hlb := kn_le b i
    repeat (first
      | refine cw_seq ?_
      | refine cw_block ?_
      | refine cw_skip ?_
      | refine cw_label ?_
      | refine cw_exit ?_
      | refine cw_ret ?_
      | refine qw_then ?_
      | refine qw_block_normal ?_
      | refine qw_block_exit ?_
      | refine qw_block_other rfl ?_
      | refine qw_block_ret ?_
      | refine qw_then_ret ?_
      | refine qw_then_exit ?_
      | refine cw_true rfl ?_
      | refine cw_false rfl ?_
      | refine cw_scope ?_
      | refine qw_scope_normal ?_
      | refine qw_scope_ret ?_
      | refine qw_scope_exit ?_
      | (refine cw_region (id := 0) ?_
         refine o_p rfl rfl ?_
         refine ow_nil ?_)
      | (refine cw_region (id := 1) ?_
         first | refine o_r rfl (r_cmp rfl rfl rfl (cmp_t (by omega))) ?_ | refine o_r rfl (r_cmp rfl rfl rfl (cmp_f (by omega))) ?_ | refine o_r rfl (r_cmp rfl rfl rfl rfl) ?_
         refine ow_nil ?_)
      | (refine cw_region (id := 2) ?_
         refine o_p rfl rfl ?_
         refine o_p rfl rfl ?_
         refine ow_nil ?_))
    refine cw_flow (id := 3) 8 mixed (by kernel_rfl) ?_
    refine f_p rfl rfl ?_
    first | refine f_r rfl (rd_indexAddr_arr Try.underlying23 sz5 rfl rfl (by omega) (by omega) (by rw [Nat.zero_add, Nat.mul_one])) ?_ | refine f_r rfl (rd_indexAddr_arr Try.underlying23 sz5 rfl rfl (by omega) (by omega) (by rw [Nat.zero_add])) ?_ | refine f_r rfl (rd_indexAddr_arr Try.underlying23 sz5 rfl rfl (by omega) (by omega) rfl) ?_
    refine f_r rfl (rd_load_old rfl (List.mem_singleton.2 rfl) one5 hca (heap_lt hsa) (by simp [keysOf])) ?_
    refine f_p rfl rfl ?_
    first | refine f_r rfl (rd_indexAddr_arr Try.underlying23 sz5 rfl rfl (by omega) (by omega) (by rw [Nat.zero_add, Nat.mul_one])) ?_ | refine f_r rfl (rd_indexAddr_arr Try.underlying23 sz5 rfl rfl (by omega) (by omega) (by rw [Nat.zero_add])) ?_ | refine f_r rfl (rd_indexAddr_arr Try.underlying23 sz5 rfl rfl (by omega) (by omega) rfl) ?_
    refine f_r rfl (rd_load_old rfl (List.mem_singleton.2 rfl) one5 hcb (heap_lt hsb) (by simp [keysOf])) ?_
    refine f_r rfl (rd_xor rfl rfl (xor_u8 _ _ hla hlb)) ?_
    refine f_p rfl rfl ?_
    refine f_end rfl ?_
    repeat (refine end_val ?_)
    refine end_nil ?_
    refine ow_nil ?_
    repeat (first
      | refine cw_seq ?_
      | refine cw_block ?_
      | refine cw_skip ?_
      | refine cw_label ?_
      | refine cw_exit ?_
      | refine cw_ret ?_
      | refine qw_then ?_
      | refine qw_block_normal ?_
      | refine qw_block_exit ?_
      | refine qw_block_other rfl ?_
      | refine qw_block_ret ?_
      | refine qw_then_ret ?_
      | refine qw_then_exit ?_
      | refine cw_true rfl ?_
      | refine cw_false rfl ?_
      | refine cw_scope ?_
      | refine qw_scope_normal ?_
      | refine qw_scope_ret ?_
      | refine qw_scope_exit ?_)
    by_cases hx : kn a i ^^^ kn b i = 0
    · have hx' : decide (cmpP .neq ((kn a i ^^^ kn b i : Nat) : Int) 0) = false := by rw [hx]; rfl
      refine cw_region (id := 4) ?_
      refine o_p rfl rfl ?_
      refine o_r rfl (r_cmp rfl rfl rfl hx') ?_
      refine o_p rfl rfl ?_
      first | refine o_k rfl ?_ | refine o_p rfl rfl ?_
      first | refine o_k rfl ?_ | refine o_p rfl rfl ?_
      first | refine o_k rfl ?_ | refine o_p rfl rfl ?_
      first | refine o_k rfl ?_ | refine o_r rfl (rd_move rfl) ?_
      first | refine o_k rfl ?_ | refine o_p rfl rfl ?_
      refine o_p rfl rfl ?_
      refine ow_nil ?_
      repeat (first
        | refine cw_seq ?_
        | refine cw_block ?_
        | refine cw_skip ?_
        | refine cw_label ?_
        | refine cw_exit ?_
        | refine cw_ret ?_
        | refine qw_then ?_
        | refine qw_block_normal ?_
        | refine qw_block_exit ?_
        | refine qw_block_other rfl ?_
        | refine qw_block_ret ?_
        | refine qw_then_ret ?_
        | refine qw_then_exit ?_
        | refine cw_true rfl ?_
        | refine cw_false rfl ?_
        | refine cw_scope ?_
        | refine qw_scope_normal ?_
        | refine qw_scope_ret ?_
        | refine qw_scope_exit ?_
        | (refine cw_region (id := 0) ?_
           refine o_p rfl rfl ?_
           refine ow_nil ?_)
        | (refine cw_region (id := 1) ?_
           first | refine o_r rfl (r_cmp rfl rfl rfl (cmp_t (by omega))) ?_ | refine o_r rfl (r_cmp rfl rfl rfl (cmp_f (by omega))) ?_ | refine o_r rfl (r_cmp rfl rfl rfl rfl) ?_
           refine ow_nil ?_)
        | (refine cw_region (id := 2) ?_
           refine o_p rfl rfl ?_
           refine o_p rfl rfl ?_
           refine ow_nil ?_)
        | (refine cw_flow (id := 3) 8 mixed (by kernel_rfl) ?_
           refine f_p rfl rfl ?_
           first | refine f_r rfl (rd_indexAddr_arr Try.underlying23 sz5 rfl rfl (by omega) (by omega) (by rw [Nat.zero_add, Nat.mul_one])) ?_ | refine f_r rfl (rd_indexAddr_arr Try.underlying23 sz5 rfl rfl (by omega) (by omega) (by rw [Nat.zero_add])) ?_ | refine f_r rfl (rd_indexAddr_arr Try.underlying23 sz5 rfl rfl (by omega) (by omega) rfl) ?_
           refine f_r rfl (rd_load rfl (by repeat (first | exact List.Mem.head _ | apply List.Mem.tail)) one5 (by first | rfl | assumption)) ?_
           refine f_p rfl rfl ?_
           first | refine f_r rfl (rd_indexAddr_arr Try.underlying23 sz5 rfl rfl (by omega) (by omega) (by rw [Nat.zero_add, Nat.mul_one])) ?_ | refine f_r rfl (rd_indexAddr_arr Try.underlying23 sz5 rfl rfl (by omega) (by omega) (by rw [Nat.zero_add])) ?_ | refine f_r rfl (rd_indexAddr_arr Try.underlying23 sz5 rfl rfl (by omega) (by omega) rfl) ?_
           refine f_r rfl (rd_load rfl (by repeat (first | exact List.Mem.head _ | apply List.Mem.tail)) one5 (by first | rfl | assumption)) ?_
           refine f_r rfl (rd_xor rfl rfl rfl) ?_
           refine f_p rfl rfl ?_
           refine f_end rfl ?_
           repeat (refine end_val ?_)
           refine end_nil ?_
           refine ow_nil ?_)
        | (refine cw_region (id := 5) ?_
           first | refine o_r rfl (r_ar rfl rfl rfl (IntWalk.i64_in _ (by omega))) ?_ | refine o_r rfl (r_ar rfl rfl rfl rfl) ?_
           refine o_p rfl rfl ?_
           refine ow_nil ?_))
      refine qw_again (i + 1, s) ⟨by omega, hsa, hsb, ?_, hKs⟩ (by repeat (first | exact trivial | refine ⟨rfl, ?_⟩)) (by show 32 - (i + 1) < 32 - i; omega) (fun _ h => h)
      simp only
      rw [dTo_succ, if_pos hx, List.append_nil]; exact hJs
    · refine cw_region (id := 4) ?_
      refine o_p rfl rfl ?_
      refine o_r rfl (r_cmp rfl rfl rfl (ne_bool _ hx)) ?_
      refine o_p rfl rfl ?_
      first | refine o_k rfl ?_ | refine o_p rfl rfl ?_
      first | refine o_k rfl ?_ | refine o_p rfl rfl ?_
      first | refine o_k rfl ?_ | refine o_p rfl rfl ?_
      refine o_y rfl rfl rfl (fun w hw => ?_)
      have hbw : Below s.heap.size s w := hw.below (by simp) (by simp [keysOf])
      have hkw : Keep X W w := hKs.trans' ⟨hbw.os, hbw.tape, hbw.output, hbw.size, fun k hk _ => hbw.block k hk⟩
      have hwa : w.heap[Ba]? = some (.cells (dv a) ta fa) := by rw [hbw.block _ (heap_lt hsa)]; exact hsa
      have hwb : w.heap[Bb]? = some (.cells (dv b) tb fb) := by rw [hbw.block _ (heap_lt hsb)]; exact hsb
      refine YieldAt.mono (hy _ (dOf a b i) w (hJ _ _ _ hJs (hbw.mono hKs.size)) (dTo_get a b i 32 hi32 hx) hkw) ?_
      rintro e B ⟨hk, ⟨rfl, hJ1⟩ | ⟨rfl, hJ1⟩⟩
      · refine ⟨_, [], [B], rfl, kn_after hw hk (by simp [keysOf]), ?_⟩
        first | refine o_k rfl ?_ | refine o_p rfl rfl ?_
        refine o_p rfl rfl ?_
        refine ow_nil ?_
        repeat (first
          | refine cw_seq ?_
          | refine cw_block ?_
          | refine cw_skip ?_
          | refine cw_label ?_
          | refine cw_exit ?_
          | refine cw_ret ?_
          | refine qw_then ?_
          | refine qw_block_normal ?_
          | refine qw_block_exit ?_
          | refine qw_block_other rfl ?_
          | refine qw_block_ret ?_
          | refine qw_then_ret ?_
          | refine qw_then_exit ?_
          | refine cw_true rfl ?_
          | refine cw_false rfl ?_
          | refine cw_scope ?_
          | refine qw_scope_normal ?_
          | refine qw_scope_ret ?_
          | refine qw_scope_exit ?_
          | (refine cw_region (id := 0) ?_
             refine o_p rfl rfl ?_
             refine ow_nil ?_)
          | (refine cw_region (id := 1) ?_
             first | refine o_r rfl (r_cmp rfl rfl rfl (cmp_t (by omega))) ?_ | refine o_r rfl (r_cmp rfl rfl rfl (cmp_f (by omega))) ?_ | refine o_r rfl (r_cmp rfl rfl rfl rfl) ?_
             refine ow_nil ?_)
          | (refine cw_region (id := 2) ?_
             refine o_p rfl rfl ?_
             refine o_p rfl rfl ?_
             refine ow_nil ?_)
          | (refine cw_flow (id := 3) 8 mixed (by kernel_rfl) ?_
             refine f_p rfl rfl ?_
             first | refine f_r rfl (rd_indexAddr_arr Try.underlying23 sz5 rfl rfl (by omega) (by omega) (by rw [Nat.zero_add, Nat.mul_one])) ?_ | refine f_r rfl (rd_indexAddr_arr Try.underlying23 sz5 rfl rfl (by omega) (by omega) (by rw [Nat.zero_add])) ?_ | refine f_r rfl (rd_indexAddr_arr Try.underlying23 sz5 rfl rfl (by omega) (by omega) rfl) ?_
             refine f_r rfl (rd_load rfl (by repeat (first | exact List.Mem.head _ | apply List.Mem.tail)) one5 (by first | rfl | assumption)) ?_
             refine f_p rfl rfl ?_
             first | refine f_r rfl (rd_indexAddr_arr Try.underlying23 sz5 rfl rfl (by omega) (by omega) (by rw [Nat.zero_add, Nat.mul_one])) ?_ | refine f_r rfl (rd_indexAddr_arr Try.underlying23 sz5 rfl rfl (by omega) (by omega) (by rw [Nat.zero_add])) ?_ | refine f_r rfl (rd_indexAddr_arr Try.underlying23 sz5 rfl rfl (by omega) (by omega) rfl) ?_
             refine f_r rfl (rd_load rfl (by repeat (first | exact List.Mem.head _ | apply List.Mem.tail)) one5 (by first | rfl | assumption)) ?_
             refine f_r rfl (rd_xor rfl rfl rfl) ?_
             refine f_p rfl rfl ?_
             refine f_end rfl ?_
             repeat (refine end_val ?_)
             refine end_nil ?_
             refine ow_nil ?_)
          | (refine cw_region (id := 5) ?_
             first | refine o_r rfl (r_ar rfl rfl rfl (IntWalk.i64_in _ (by omega))) ?_ | refine o_r rfl (r_ar rfl rfl rfl rfl) ?_
             refine o_p rfl rfl ?_
             refine ow_nil ?_))
        refine qw_again (i + 1, B) ⟨by omega, ?_, ?_, ?_, hkw.trans' hk⟩ (by repeat (first | exact trivial | refine ⟨rfl, ?_⟩)) (by show 32 - (i + 1) < 32 - i; omega) (fun _ h => h)
        · show B.heap[Ba]? = _; rw [hk.block _ (heap_lt hwa) hXa]; exact hwa
        · show B.heap[Bb]? = _; rw [hk.block _ (heap_lt hwb) hXb]; exact hwb
        · simp only
          rw [dTo_succ, if_neg hx, List.length_append]; exact hJ1
      · refine ⟨_, [], [B], rfl, kn_after hw hk (by simp [keysOf]), ?_⟩
        first | refine o_k rfl ?_ | refine o_p rfl rfl ?_
        refine o_p rfl rfl ?_
        refine ow_nil ?_
        repeat (first
          | refine cw_seq ?_
          | refine cw_block ?_
          | refine cw_skip ?_
          | refine cw_label ?_
          | refine cw_exit ?_
          | refine cw_ret ?_
          | refine qw_then ?_
          | refine qw_block_normal ?_
          | refine qw_block_exit ?_
          | refine qw_block_other rfl ?_
          | refine qw_block_ret ?_
          | refine qw_then_ret ?_
          | refine qw_then_exit ?_
          | refine cw_true rfl ?_
          | refine cw_false rfl ?_
          | refine cw_scope ?_
          | refine qw_scope_normal ?_
          | refine qw_scope_ret ?_
          | refine qw_scope_exit ?_
          | (refine cw_region (id := 0) ?_
             refine o_p rfl rfl ?_
             refine ow_nil ?_)
          | (refine cw_region (id := 1) ?_
             first | refine o_r rfl (r_cmp rfl rfl rfl (cmp_t (by omega))) ?_ | refine o_r rfl (r_cmp rfl rfl rfl (cmp_f (by omega))) ?_ | refine o_r rfl (r_cmp rfl rfl rfl rfl) ?_
             refine ow_nil ?_)
          | (refine cw_region (id := 2) ?_
             refine o_p rfl rfl ?_
             refine o_p rfl rfl ?_
             refine ow_nil ?_)
          | (refine cw_flow (id := 3) 8 mixed (by kernel_rfl) ?_
             refine f_p rfl rfl ?_
             first | refine f_r rfl (rd_indexAddr_arr Try.underlying23 sz5 rfl rfl (by omega) (by omega) (by rw [Nat.zero_add, Nat.mul_one])) ?_ | refine f_r rfl (rd_indexAddr_arr Try.underlying23 sz5 rfl rfl (by omega) (by omega) (by rw [Nat.zero_add])) ?_ | refine f_r rfl (rd_indexAddr_arr Try.underlying23 sz5 rfl rfl (by omega) (by omega) rfl) ?_
             refine f_r rfl (rd_load rfl (by repeat (first | exact List.Mem.head _ | apply List.Mem.tail)) one5 (by first | rfl | assumption)) ?_
             refine f_p rfl rfl ?_
             first | refine f_r rfl (rd_indexAddr_arr Try.underlying23 sz5 rfl rfl (by omega) (by omega) (by rw [Nat.zero_add, Nat.mul_one])) ?_ | refine f_r rfl (rd_indexAddr_arr Try.underlying23 sz5 rfl rfl (by omega) (by omega) (by rw [Nat.zero_add])) ?_ | refine f_r rfl (rd_indexAddr_arr Try.underlying23 sz5 rfl rfl (by omega) (by omega) rfl) ?_
             refine f_r rfl (rd_load rfl (by repeat (first | exact List.Mem.head _ | apply List.Mem.tail)) one5 (by first | rfl | assumption)) ?_
             refine f_r rfl (rd_xor rfl rfl rfl) ?_
             refine f_p rfl rfl ?_
             refine f_end rfl ?_
             repeat (refine end_val ?_)
             refine end_nil ?_
             refine ow_nil ?_)
          | (refine cw_region (id := 5) ?_
             first | refine o_r rfl (r_ar rfl rfl rfl (IntWalk.i64_in _ (by omega))) ?_ | refine o_r rfl (r_ar rfl rfl rfl rfl) ?_
             refine o_p rfl rfl ?_
             refine ow_nil ?_))
        refine fin0 (.inr rfl) rfl (fun v hv => ⟨⟨_, rfl⟩, .inr ⟨_, Nat.succ_pos _, ?_, hJx _ _ _ hJ1 ((hv.below (w0 := B) (by simp) (by simp only [keysOf, List.map_cons, List.map_nil, List.forall_mem_cons, List.not_mem_nil, false_imp_iff, implies_true, and_true] <;> omega)).mono (hkw.trans' hk).size)⟩⟩)
        have h1 := dTo_get a b i 32 hi32 hx
        exact (List.getElem?_eq_some_iff.1 h1).1
  · have : i = 32 := by omega
    subst this
    repeat (first
      | refine cw_seq ?_
      | refine cw_block ?_
      | refine cw_skip ?_
      | refine cw_label ?_
      | refine cw_exit ?_
      | refine cw_ret ?_
      | refine qw_then ?_
      | refine qw_block_normal ?_
      | refine qw_block_exit ?_
      | refine qw_block_other rfl ?_
      | refine qw_block_ret ?_
      | refine qw_then_ret ?_
      | refine qw_then_exit ?_
      | refine cw_true rfl ?_
      | refine cw_false rfl ?_
      | refine cw_scope ?_
      | refine qw_scope_normal ?_
      | refine qw_scope_ret ?_
      | refine qw_scope_exit ?_
      | (refine cw_region (id := 0) ?_
         refine o_p rfl rfl ?_
         refine ow_nil ?_)
      | (refine cw_region (id := 1) ?_
         first | refine o_r rfl (r_cmp rfl rfl rfl (cmp_t (by omega))) ?_ | refine o_r rfl (r_cmp rfl rfl rfl (cmp_f (by omega))) ?_ | refine o_r rfl (r_cmp rfl rfl rfl rfl) ?_
         refine ow_nil ?_)
      | (refine cw_region (id := 2) ?_
         refine o_p rfl rfl ?_
         refine o_p rfl rfl ?_
         refine ow_nil ?_)
      | (refine cw_flow (id := 3) 8 mixed (by kernel_rfl) ?_
         refine f_p rfl rfl ?_
         first | refine f_r rfl (rd_indexAddr_arr Try.underlying23 sz5 rfl rfl (by omega) (by omega) (by rw [Nat.zero_add, Nat.mul_one])) ?_ | refine f_r rfl (rd_indexAddr_arr Try.underlying23 sz5 rfl rfl (by omega) (by omega) (by rw [Nat.zero_add])) ?_ | refine f_r rfl (rd_indexAddr_arr Try.underlying23 sz5 rfl rfl (by omega) (by omega) rfl) ?_
         refine f_r rfl (rd_load rfl (by repeat (first | exact List.Mem.head _ | apply List.Mem.tail)) one5 (by first | rfl | assumption)) ?_
         refine f_p rfl rfl ?_
         first | refine f_r rfl (rd_indexAddr_arr Try.underlying23 sz5 rfl rfl (by omega) (by omega) (by rw [Nat.zero_add, Nat.mul_one])) ?_ | refine f_r rfl (rd_indexAddr_arr Try.underlying23 sz5 rfl rfl (by omega) (by omega) (by rw [Nat.zero_add])) ?_ | refine f_r rfl (rd_indexAddr_arr Try.underlying23 sz5 rfl rfl (by omega) (by omega) rfl) ?_
         refine f_r rfl (rd_load rfl (by repeat (first | exact List.Mem.head _ | apply List.Mem.tail)) one5 (by first | rfl | assumption)) ?_
         refine f_r rfl (rd_xor rfl rfl rfl) ?_
         refine f_p rfl rfl ?_
         refine f_end rfl ?_
         repeat (refine end_val ?_)
         refine end_nil ?_
         refine ow_nil ?_)
      | (refine cw_region (id := 5) ?_
         first | refine o_r rfl (r_ar rfl rfl rfl (IntWalk.i64_in _ (by omega))) ?_ | refine o_r rfl (r_ar rfl rfl rfl rfl) ?_
         refine o_p rfl rfl ?_
         refine ow_nil ?_))
    exact fin0 (.inr rfl) rfl (fun v hv => ⟨⟨_, rfl⟩, .inl (hJ _ _ _ hJs ((hv.below (w0 := s) (by simp) (by simp only [keysOf, List.map_cons, List.map_nil, List.forall_mem_cons, List.not_mem_nil, false_imp_iff, implies_true, and_true] <;> omega)).mono hKs.size))⟩)
end Go.Proofs.Ytnlhkpdclnhneaa

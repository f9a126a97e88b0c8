import Derived.Test.YtjnhoamedobdaaaMap
import Derived.Test.YtjnhoamedobdaaaFact
namespace Go.Proofs.Ytjnhoamedobdaaa
open Go.RowKit
attribute [local irreducible] Go.Calls
/-- a slice of integers that lies there -/
def IsSl (w : World) (v : Value) (zs : List Int) : Prop :=
  (∃ ad cap, v = .slice ad 0 cap ∧ zs = []) ∨ ∃ b off cap, v = .slice (some ⟨b, off, none⟩) zs.length cap ∧ zs.length ≤ cap ∧ b < w.heap.size ∧ ∀ i n, zs[i]? = some n → w.cell? ⟨b, off + i, none⟩ = some (.int .i64 n)
def win (zs : List Int) (k i : Nat) : List Int := (zs.drop i).take k
def OkAt (zs : List Int) (tasks : Int) (k i : Nat) : Prop := ∀ n : Nat, (n : Int) < tasks → (n : Int) ∈ win zs k i
def FairP (zs : List Int) (tasks k : Int) : Prop := 1 ≤ k ∧ ∀ i : Nat, i + k.toNat ≤ zs.length → OkAt zs tasks k.toNat i
theorem zk3 : (Try.prog.info? 3).bind (·.zero) = some (.int .i64 0) := by kernel_rfl
theorem win_len (zs : List Int) (k i : Nat) (h : i + k ≤ zs.length) : (win zs k i).length = k := by unfold win; simp; omega
theorem win_get (zs : List Int) (k i j : Nat) (n : Int) (h : (win zs k i)[j]? = some n) : zs[i + j]? = some n := by
  unfold win at h
  rw [List.getElem?_take] at h
  split at h
  · rwa [List.getElem?_drop] at h
  · cases h
/-! the second reading -/
theorem has_c (w : World) (b off cap : Nat) (zs : List Int) (x : Int) (v : Bool) (hz : zs.length ≤ 40) (hb : b < w.heap.size) (hc : ∀ i n, zs[i]? = some n → w.cell? ⟨b, off + i, none⟩ = some (.int .i64 n)) (hv : (v = true ↔ x ∈ zs)) :
    Calls Try.prog 6 #[.slice (some ⟨b, off, none⟩) zs.length cap, .int .i64 x] w fun e w' => e = .returned (.bool v) ∧ Below w.heap.size w w' := by
  refine enter Try.func6 rfl (Nat.le_of_ble_eq_true rfl) (kn0 w) (vs := [_, _]) (fr0 := [(0, _), (1, _)]) rfl (n := 18) rfl ?_
  repeat (first
    | refine cw_seq ?_
    | refine cw_block ?_
    | refine cw_skip ?_
    | refine cw_label ?_
    | refine cw_exit ?_
    | refine cw_ret ?_
    | refine qw_then ?_
    | refine qw_block_normal ?_
    | refine qw_block_exit ?_
    | refine qw_block_other rfl ?_
    | refine qw_block_ret ?_
    | refine qw_then_ret ?_
    | refine qw_then_exit ?_
    | refine cw_true rfl ?_
    | refine cw_false rfl ?_
    | refine cw_scope ?_
    | refine qw_scope_normal ?_
    | refine qw_scope_ret ?_
    | refine qw_scope_exit ?_
    | (refine cw_region (id := 0) ?_
       refine o_p rfl rfl ?_
       refine ow_nil ?_)
    | (refine cw_region (id := 1) ?_
       refine o_p rfl rfl ?_
       refine ow_nil ?_))
  refine cw_loop (fun i : Nat => i ≤ zs.length ∧ ∀ j, j < i → zs[j]? ≠ some x) (fun i => [(5, .int .i64 (i : Int)), (0, .slice (some ⟨b, off, none⟩) zs.length cap), (1, .int .i64 x)]) (fun _ => []) (fun _ => [w]) (fun i => zs.length - i) 0 ⟨by omega, by omega⟩ (by repeat (first | exact trivial | refine ⟨rfl, ?_⟩)) rfl rfl ?_
  rintro i ⟨hi, hno⟩
  by_cases hil : i < zs.length
  · have hg : zs[i]? = some zs[i] := List.getElem?_eq_getElem hil
    have hcell : w.cell? ⟨b, off + (i : Int).toNat, none⟩ = some (.int .i64 zs[i]) := by rw [Int.toNat_natCast]; exact hc i _ hg
    by_cases hx : zs[i] = x
    · have : v = true := hv.2 (by rw [← hx]; exact List.getElem_mem hil)
      subst this
      repeat (first
        | refine cw_seq ?_
        | refine cw_block ?_
        | refine cw_skip ?_
        | refine cw_label ?_
        | refine cw_exit ?_
        | refine cw_ret ?_
        | refine qw_then ?_
        | refine qw_block_normal ?_
        | refine qw_block_exit ?_
        | refine qw_block_other rfl ?_
        | refine qw_block_ret ?_
        | refine qw_then_ret ?_
        | refine qw_then_exit ?_
        | refine cw_true rfl ?_
        | refine cw_false rfl ?_
        | refine cw_scope ?_
        | refine qw_scope_normal ?_
        | refine qw_scope_ret ?_
        | refine qw_scope_exit ?_
        | (refine cw_region (id := 0) ?_
           refine o_p rfl rfl ?_
           refine ow_nil ?_)
        | (refine cw_region (id := 1) ?_
           refine o_p rfl rfl ?_
           refine ow_nil ?_)
        | (refine cw_region (id := 2) ?_
           refine o_p rfl rfl ?_
           refine o_p rfl rfl ?_
           refine o_r rfl (rd_len_sl rfl Try.underlying22 rfl) ?_
           first | refine o_r rfl (r_cmp rfl rfl rfl (cmp_t (by omega))) ?_ | refine o_r rfl (r_cmp rfl rfl rfl (cmp_f (by omega))) ?_ | refine o_r rfl (r_cmp rfl rfl rfl rfl) ?_
           refine ow_nil ?_)
        | (refine cw_region (id := 4) ?_
           refine o_p rfl rfl ?_
           refine o_p rfl rfl ?_
           refine o_r rfl (rd_indexAddr_sl Try.underlying22 sz3 rfl rfl (by omega) (by omega) (by rw [Nat.mul_one])) ?_
           refine o_r rfl (rd_load_old rfl (List.mem_singleton.2 rfl) one3 hcell hb (by simp [keysOf])) ?_
           refine o_p rfl rfl ?_
           first | refine o_r rfl (r_cmp rfl rfl rfl (cmp_t (by omega))) ?_ | refine o_r rfl (r_cmp rfl rfl rfl (cmp_f (by omega))) ?_ | refine o_r rfl (r_cmp rfl rfl rfl rfl) ?_
           refine ow_nil ?_)
        | (refine cw_region (id := 5) ?_
           refine o_p rfl rfl ?_
           refine ow_nil ?_)
        | (refine cw_region (id := 3) ?_
           refine o_p rfl rfl ?_
           first | refine o_r rfl (r_ar rfl rfl rfl (IntWalk.i64_in _ (by omega))) ?_ | refine o_r rfl (r_ar rfl rfl rfl rfl) ?_
           refine o_p rfl rfl ?_
           refine ow_nil ?_)
        | (refine cw_region (id := 6) ?_
           refine o_p rfl rfl ?_
           refine ow_nil ?_))
      exact fin1 (.inl rfl) rfl (res_tmp rfl) (fun v hv => ⟨rfl, hv.below (by simp) (by simp only [keysOf, List.map_cons, List.map_nil, List.forall_mem_cons, List.not_mem_nil, false_imp_iff, implies_true, and_true] <;> omega)⟩)
    · repeat (first
        | refine cw_seq ?_
        | refine cw_block ?_
        | refine cw_skip ?_
        | refine cw_label ?_
        | refine cw_exit ?_
        | refine cw_ret ?_
        | refine qw_then ?_
        | refine qw_block_normal ?_
        | refine qw_block_exit ?_
        | refine qw_block_other rfl ?_
        | refine qw_block_ret ?_
        | refine qw_then_ret ?_
        | refine qw_then_exit ?_
        | refine cw_true rfl ?_
        | refine cw_false rfl ?_
        | refine cw_scope ?_
        | refine qw_scope_normal ?_
        | refine qw_scope_ret ?_
        | refine qw_scope_exit ?_
        | (refine cw_region (id := 0) ?_
           refine o_p rfl rfl ?_
           refine ow_nil ?_)
        | (refine cw_region (id := 1) ?_
           refine o_p rfl rfl ?_
           refine ow_nil ?_)
        | (refine cw_region (id := 2) ?_
           refine o_p rfl rfl ?_
           refine o_p rfl rfl ?_
           refine o_r rfl (rd_len_sl rfl Try.underlying22 rfl) ?_
           first | refine o_r rfl (r_cmp rfl rfl rfl (cmp_t (by omega))) ?_ | refine o_r rfl (r_cmp rfl rfl rfl (cmp_f (by omega))) ?_ | refine o_r rfl (r_cmp rfl rfl rfl rfl) ?_
           refine ow_nil ?_)
        | (refine cw_region (id := 4) ?_
           refine o_p rfl rfl ?_
           refine o_p rfl rfl ?_
           refine o_r rfl (rd_indexAddr_sl Try.underlying22 sz3 rfl rfl (by omega) (by omega) (by rw [Nat.mul_one])) ?_
           refine o_r rfl (rd_load_old rfl (List.mem_singleton.2 rfl) one3 hcell hb (by simp [keysOf])) ?_
           refine o_p rfl rfl ?_
           first | refine o_r rfl (r_cmp rfl rfl rfl (cmp_t (by omega))) ?_ | refine o_r rfl (r_cmp rfl rfl rfl (cmp_f (by omega))) ?_ | refine o_r rfl (r_cmp rfl rfl rfl rfl) ?_
           refine ow_nil ?_)
        | (refine cw_region (id := 5) ?_
           refine o_p rfl rfl ?_
           refine ow_nil ?_)
        | (refine cw_region (id := 3) ?_
           refine o_p rfl rfl ?_
           first | refine o_r rfl (r_ar rfl rfl rfl (IntWalk.i64_in _ (by omega))) ?_ | refine o_r rfl (r_ar rfl rfl rfl rfl) ?_
           refine o_p rfl rfl ?_
           refine ow_nil ?_)
        | (refine cw_region (id := 6) ?_
           refine o_p rfl rfl ?_
           refine ow_nil ?_))
      refine qw_again (i + 1) ⟨by omega, fun j hj => ?_⟩ (by repeat (first | exact trivial | refine ⟨rfl, ?_⟩)) (by omega) (fun _ h => h)
      rcases Nat.lt_succ_iff_lt_or_eq.1 hj with h | rfl
      · exact hno j h
      · rw [hg]; simpa using hx
  · have : v = false := by
      cases v with
      | false => rfl
      | true =>
        obtain ⟨j, hj, hjx⟩ := List.getElem_of_mem (hv.1 rfl)
        exact absurd (by rw [List.getElem?_eq_getElem hj, hjx]) (hno j (by omega))
    subst this
    repeat (first
      | refine cw_seq ?_
      | refine cw_block ?_
      | refine cw_skip ?_
      | refine cw_label ?_
      | refine cw_exit ?_
      | refine cw_ret ?_
      | refine qw_then ?_
      | refine qw_block_normal ?_
      | refine qw_block_exit ?_
      | refine qw_block_other rfl ?_
      | refine qw_block_ret ?_
      | refine qw_then_ret ?_
      | refine qw_then_exit ?_
      | refine cw_true rfl ?_
      | refine cw_false rfl ?_
      | refine cw_scope ?_
      | refine qw_scope_normal ?_
      | refine qw_scope_ret ?_
      | refine qw_scope_exit ?_
      | (refine cw_region (id := 0) ?_
         refine o_p rfl rfl ?_
         refine ow_nil ?_)
      | (refine cw_region (id := 1) ?_
         refine o_p rfl rfl ?_
         refine ow_nil ?_)
      | (refine cw_region (id := 2) ?_
         refine o_p rfl rfl ?_
         refine o_p rfl rfl ?_
         refine o_r rfl (rd_len_sl rfl Try.underlying22 rfl) ?_
         first | refine o_r rfl (r_cmp rfl rfl rfl (cmp_t (by omega))) ?_ | refine o_r rfl (r_cmp rfl rfl rfl (cmp_f (by omega))) ?_ | refine o_r rfl (r_cmp rfl rfl rfl rfl) ?_
         refine ow_nil ?_)
      | (refine cw_region (id := 4) ?_
         refine o_p rfl rfl ?_
         refine o_p rfl rfl ?_
         first | refine o_r rfl (rd_indexAddr_sl Try.underlying22 sz3 rfl rfl (by omega) (by omega) (by rw [Nat.mul_one])) ?_ | refine o_r rfl (rd_indexAddr_sl Try.underlying22 sz3 rfl rfl (by omega) (by omega) rfl) ?_
         refine o_r rfl (rd_load rfl (by repeat (first | exact List.Mem.head _ | apply List.Mem.tail)) one3 (by first | rfl | assumption)) ?_
         refine o_p rfl rfl ?_
         first | refine o_r rfl (r_cmp rfl rfl rfl (cmp_t (by omega))) ?_ | refine o_r rfl (r_cmp rfl rfl rfl (cmp_f (by omega))) ?_ | refine o_r rfl (r_cmp rfl rfl rfl rfl) ?_
         refine ow_nil ?_)
      | (refine cw_region (id := 5) ?_
         refine o_p rfl rfl ?_
         refine ow_nil ?_)
      | (refine cw_region (id := 3) ?_
         refine o_p rfl rfl ?_
         first | refine o_r rfl (r_ar rfl rfl rfl (IntWalk.i64_in _ (by omega))) ?_ | refine o_r rfl (r_ar rfl rfl rfl rfl) ?_
         refine o_p rfl rfl ?_
         refine ow_nil ?_)
      | (refine cw_region (id := 6) ?_
         refine o_p rfl rfl ?_
         refine ow_nil ?_))
    exact fin1 (.inl rfl) rfl (res_tmp rfl) (fun v hv => ⟨rfl, hv.below (by simp) (by simp only [keysOf, List.map_cons, List.map_nil, List.forall_mem_cons, List.not_mem_nil, false_imp_iff, implies_true, and_true] <;> omega)⟩)
theorem rfair_c (w : World) (v : Value) (zs : List Int) (tasks k : Int) (r : Bool) (hs : IsSl w v zs) (hz : zs.length ≤ 40) (ht : tasks ≤ 20) (hk : k ≤ 9223372036854775807) (hr : (r = true ↔ FairP zs tasks k)) :
    Calls Try.prog 5 #[v, .int .i64 tasks, .int .i64 k] w fun e w' => e = .returned (.bool r) ∧ Below w.heap.size w w' := by
  by_cases hk1 : k < 1
  · have : r = false := by
      cases r with
      | false => rfl
      | true => have := (hr.1 rfl).1; omega
    subst this
    refine enter Try.func5 rfl (Nat.le_of_ble_eq_true rfl) (kn0 w) (vs := [_, _, _]) (fr0 := [(0, _), (1, _), (2, _)]) rfl (n := 33) rfl ?_
    repeat (first
      | refine cw_seq ?_
      | refine cw_block ?_
      | refine cw_skip ?_
      | refine cw_label ?_
      | refine cw_exit ?_
      | refine cw_ret ?_
      | refine qw_then ?_
      | refine qw_block_normal ?_
      | refine qw_block_exit ?_
      | refine qw_block_other rfl ?_
      | refine qw_block_ret ?_
      | refine qw_then_ret ?_
      | refine qw_then_exit ?_
      | refine cw_true rfl ?_
      | refine cw_false rfl ?_
      | refine cw_scope ?_
      | refine qw_scope_normal ?_
      | refine qw_scope_ret ?_
      | refine qw_scope_exit ?_
      | (refine cw_region (id := 0) ?_
         refine o_p rfl rfl ?_
         refine ow_nil ?_)
      | (refine cw_region (id := 1) ?_
         refine o_p rfl rfl ?_
         first | refine o_r rfl (r_cmp rfl rfl rfl (cmp_t (by omega))) ?_ | refine o_r rfl (r_cmp rfl rfl rfl (cmp_f (by omega))) ?_ | refine o_r rfl (r_cmp rfl rfl rfl rfl) ?_
         refine ow_nil ?_)
      | (refine cw_region (id := 2) ?_
         refine o_p rfl rfl ?_
         refine ow_nil ?_)
      | (refine cw_region (id := 3) ?_
         refine o_p rfl rfl ?_
         refine ow_nil ?_)
      | (refine cw_region (id := 4) ?_
         refine o_p rfl rfl ?_
         refine o_p rfl rfl ?_
         refine o_r rfl (rd_len_sl rfl Try.underlying22 rfl) ?_
         refine o_p rfl rfl ?_
         first | refine o_r rfl (r_ar rfl rfl rfl (IntWalk.i64_in _ (by omega))) ?_ | refine o_r rfl (r_ar rfl rfl rfl rfl) ?_
         first | refine o_r rfl (r_cmp rfl rfl rfl (cmp_t (by omega))) ?_ | refine o_r rfl (r_cmp rfl rfl rfl (cmp_f (by omega))) ?_ | refine o_r rfl (r_cmp rfl rfl rfl rfl) ?_
         refine ow_nil ?_)
      | (refine cw_region (id := 6) ?_
         refine o_p rfl rfl ?_
         refine ow_nil ?_)
      | (refine cw_region (id := 7) ?_
         refine o_p rfl rfl ?_
         refine o_p rfl rfl ?_
         first | refine o_r rfl (r_cmp rfl rfl rfl (cmp_t (by omega))) ?_ | refine o_r rfl (r_cmp rfl rfl rfl (cmp_f (by omega))) ?_ | refine o_r rfl (r_cmp rfl rfl rfl rfl) ?_
         refine ow_nil ?_)
      | (refine cw_region (id := 10) ?_
         refine o_p rfl rfl ?_
         refine ow_nil ?_)
      | (refine cw_region (id := 8) ?_
         refine o_p rfl rfl ?_
         first | refine o_r rfl (r_ar rfl rfl rfl (IntWalk.i64_in _ (by omega))) ?_ | refine o_r rfl (r_ar rfl rfl rfl rfl) ?_
         refine o_p rfl rfl ?_
         refine ow_nil ?_)
      | (refine cw_region (id := 5) ?_
         refine o_p rfl rfl ?_
         first | refine o_r rfl (r_ar rfl rfl rfl (IntWalk.i64_in _ (by omega))) ?_ | refine o_r rfl (r_ar rfl rfl rfl rfl) ?_
         refine o_p rfl rfl ?_
         refine ow_nil ?_)
      | (refine cw_region (id := 11) ?_
         refine o_p rfl rfl ?_
         refine ow_nil ?_))
    exact fin1 (.inl rfl) rfl (res_tmp rfl) (fun v hv => ⟨rfl, hv.below (by simp) (by simp only [keysOf, List.map_cons, List.map_nil, List.forall_mem_cons, List.not_mem_nil, false_imp_iff, implies_true, and_true] <;> omega)⟩)
  · obtain ⟨kk, rfl⟩ := Int.eq_ofNat_of_zero_le (show 0 ≤ k by omega)
    rcases hs with ⟨ad, cap, rfl, rfl⟩ | ⟨b, off, cap, rfl, hcap, hb, hc⟩
    · have : r = true := hr.2 ⟨by omega, fun i hi => by simp at hi; omega⟩
      subst this
      refine enter Try.func5 rfl (Nat.le_of_ble_eq_true rfl) (kn0 w) (vs := [_, _, _]) (fr0 := [(0, _), (1, _), (2, _)]) rfl (n := 33) rfl ?_
      repeat (first
        | refine cw_seq ?_
        | refine cw_block ?_
        | refine cw_skip ?_
        | refine cw_label ?_
        | refine cw_exit ?_
        | refine cw_ret ?_
        | refine qw_then ?_
        | refine qw_block_normal ?_
        | refine qw_block_exit ?_
        | refine qw_block_other rfl ?_
        | refine qw_block_ret ?_
        | refine qw_then_ret ?_
        | refine qw_then_exit ?_
        | refine cw_true rfl ?_
        | refine cw_false rfl ?_
        | refine cw_scope ?_
        | refine qw_scope_normal ?_
        | refine qw_scope_ret ?_
        | refine qw_scope_exit ?_
        | (refine cw_region (id := 0) ?_
           refine o_p rfl rfl ?_
           refine ow_nil ?_)
        | (refine cw_region (id := 1) ?_
           refine o_p rfl rfl ?_
           first | refine o_r rfl (r_cmp rfl rfl rfl (cmp_t (by omega))) ?_ | refine o_r rfl (r_cmp rfl rfl rfl (cmp_f (by omega))) ?_ | refine o_r rfl (r_cmp rfl rfl rfl rfl) ?_
           refine ow_nil ?_)
        | (refine cw_region (id := 2) ?_
           refine o_p rfl rfl ?_
           refine ow_nil ?_)
        | (refine cw_region (id := 3) ?_
           refine o_p rfl rfl ?_
           refine ow_nil ?_))
      refine cw_loop (fun _ : Unit => True) (fun _ => [(7, .int .i64 0), (0, .slice ad 0 cap), (1, .int .i64 tasks), (2, .int .i64 (kk : Int))]) (fun _ => []) (fun _ => [w]) (fun _ => 0) () trivial (by repeat (first | exact trivial | refine ⟨rfl, ?_⟩)) rfl rfl ?_
      intro _ _
      repeat (first
        | refine cw_seq ?_
        | refine cw_block ?_
        | refine cw_skip ?_
        | refine cw_label ?_
        | refine cw_exit ?_
        | refine cw_ret ?_
        | refine qw_then ?_
        | refine qw_block_normal ?_
        | refine qw_block_exit ?_
        | refine qw_block_other rfl ?_
        | refine qw_block_ret ?_
        | refine qw_then_ret ?_
        | refine qw_then_exit ?_
        | refine cw_true rfl ?_
        | refine cw_false rfl ?_
        | refine cw_scope ?_
        | refine qw_scope_normal ?_
        | refine qw_scope_ret ?_
        | refine qw_scope_exit ?_
        | (refine cw_region (id := 0) ?_
           refine o_p rfl rfl ?_
           refine ow_nil ?_)
        | (refine cw_region (id := 1) ?_
           refine o_p rfl rfl ?_
           first | refine o_r rfl (r_cmp rfl rfl rfl (cmp_t (by omega))) ?_ | refine o_r rfl (r_cmp rfl rfl rfl (cmp_f (by omega))) ?_ | refine o_r rfl (r_cmp rfl rfl rfl rfl) ?_
           refine ow_nil ?_)
        | (refine cw_region (id := 2) ?_
           refine o_p rfl rfl ?_
           refine ow_nil ?_)
        | (refine cw_region (id := 3) ?_
           refine o_p rfl rfl ?_
           refine ow_nil ?_)
        | (refine cw_region (id := 4) ?_
           refine o_p rfl rfl ?_
           refine o_p rfl rfl ?_
           refine o_r rfl (rd_len_sl rfl Try.underlying22 rfl) ?_
           refine o_p rfl rfl ?_
           first | refine o_r rfl (r_ar rfl rfl rfl (IntWalk.i64_in _ (by omega))) ?_ | refine o_r rfl (r_ar rfl rfl rfl rfl) ?_
           first | refine o_r rfl (r_cmp rfl rfl rfl (cmp_t (by omega))) ?_ | refine o_r rfl (r_cmp rfl rfl rfl (cmp_f (by omega))) ?_ | refine o_r rfl (r_cmp rfl rfl rfl rfl) ?_
           refine ow_nil ?_)
        | (refine cw_region (id := 6) ?_
           refine o_p rfl rfl ?_
           refine ow_nil ?_)
        | (refine cw_region (id := 7) ?_
           refine o_p rfl rfl ?_
           refine o_p rfl rfl ?_
           first | refine o_r rfl (r_cmp rfl rfl rfl (cmp_t (by omega))) ?_ | refine o_r rfl (r_cmp rfl rfl rfl (cmp_f (by omega))) ?_ | refine o_r rfl (r_cmp rfl rfl rfl rfl) ?_
           refine ow_nil ?_)
        | (refine cw_region (id := 10) ?_
           refine o_p rfl rfl ?_
           refine ow_nil ?_)
        | (refine cw_region (id := 8) ?_
           refine o_p rfl rfl ?_
           first | refine o_r rfl (r_ar rfl rfl rfl (IntWalk.i64_in _ (by omega))) ?_ | refine o_r rfl (r_ar rfl rfl rfl rfl) ?_
           refine o_p rfl rfl ?_
           refine ow_nil ?_)
        | (refine cw_region (id := 5) ?_
           refine o_p rfl rfl ?_
           first | refine o_r rfl (r_ar rfl rfl rfl (IntWalk.i64_in _ (by omega))) ?_ | refine o_r rfl (r_ar rfl rfl rfl rfl) ?_
           refine o_p rfl rfl ?_
           refine ow_nil ?_)
        | (refine cw_region (id := 11) ?_
           refine o_p rfl rfl ?_
           refine ow_nil ?_))
      exact fin1 (.inl rfl) rfl (res_tmp rfl) (fun v hv => ⟨rfl, hv.below (by simp) (by simp only [keysOf, List.map_cons, List.map_nil, List.forall_mem_cons, List.not_mem_nil, false_imp_iff, implies_true, and_true] <;> omega)⟩)
    · refine enter Try.func5 rfl (Nat.le_of_ble_eq_true rfl) (kn0 w) (vs := [_, _, _]) (fr0 := [(0, _), (1, _), (2, _)]) rfl (n := 33) rfl ?_
      repeat (first
        | refine cw_seq ?_
        | refine cw_block ?_
        | refine cw_skip ?_
        | refine cw_label ?_
        | refine cw_exit ?_
        | refine cw_ret ?_
        | refine qw_then ?_
        | refine qw_block_normal ?_
        | refine qw_block_exit ?_
        | refine qw_block_other rfl ?_
        | refine qw_block_ret ?_
        | refine qw_then_ret ?_
        | refine qw_then_exit ?_
        | refine cw_true rfl ?_
        | refine cw_false rfl ?_
        | refine cw_scope ?_
        | refine qw_scope_normal ?_
        | refine qw_scope_ret ?_
        | refine qw_scope_exit ?_
        | (refine cw_region (id := 0) ?_
           refine o_p rfl rfl ?_
           refine ow_nil ?_)
        | (refine cw_region (id := 1) ?_
           refine o_p rfl rfl ?_
           first | refine o_r rfl (r_cmp rfl rfl rfl (cmp_t (by omega))) ?_ | refine o_r rfl (r_cmp rfl rfl rfl (cmp_f (by omega))) ?_ | refine o_r rfl (r_cmp rfl rfl rfl rfl) ?_
           refine ow_nil ?_)
        | (refine cw_region (id := 2) ?_
           refine o_p rfl rfl ?_
           refine ow_nil ?_)
        | (refine cw_region (id := 3) ?_
           refine o_p rfl rfl ?_
           refine ow_nil ?_))
      refine cw_loop (fun i : Nat => i ≤ zs.length + 1 ∧ ∀ j, j < i → OkAt zs tasks kk j) (fun i => [(7, .int .i64 (i : Int)), (0, .slice (some ⟨b, off, none⟩) zs.length cap), (1, .int .i64 tasks), (2, .int .i64 (kk : Int))]) (fun _ => []) (fun _ => [w]) (fun i => zs.length + 1 - i) 0 ⟨by omega, by omega⟩ (by repeat (first | exact trivial | refine ⟨rfl, ?_⟩)) rfl rfl ?_
      rintro i ⟨hi, hok⟩
      by_cases hik : i + kk ≤ zs.length
      · repeat (first
          | refine cw_seq ?_
          | refine cw_block ?_
          | refine cw_skip ?_
          | refine cw_label ?_
          | refine cw_exit ?_
          | refine cw_ret ?_
          | refine qw_then ?_
          | refine qw_block_normal ?_
          | refine qw_block_exit ?_
          | refine qw_block_other rfl ?_
          | refine qw_block_ret ?_
          | refine qw_then_ret ?_
          | refine qw_then_exit ?_
          | refine cw_true rfl ?_
          | refine cw_false rfl ?_
          | refine cw_scope ?_
          | refine qw_scope_normal ?_
          | refine qw_scope_ret ?_
          | refine qw_scope_exit ?_
          | (refine cw_region (id := 0) ?_
             refine o_p rfl rfl ?_
             refine ow_nil ?_)
          | (refine cw_region (id := 1) ?_
             refine o_p rfl rfl ?_
             first | refine o_r rfl (r_cmp rfl rfl rfl (cmp_t (by omega))) ?_ | refine o_r rfl (r_cmp rfl rfl rfl (cmp_f (by omega))) ?_ | refine o_r rfl (r_cmp rfl rfl rfl rfl) ?_
             refine ow_nil ?_)
          | (refine cw_region (id := 2) ?_
             refine o_p rfl rfl ?_
             refine ow_nil ?_)
          | (refine cw_region (id := 3) ?_
             refine o_p rfl rfl ?_
             refine ow_nil ?_)
          | (refine cw_region (id := 4) ?_
             refine o_p rfl rfl ?_
             refine o_p rfl rfl ?_
             refine o_r rfl (rd_len_sl rfl Try.underlying22 rfl) ?_
             refine o_p rfl rfl ?_
             first | refine o_r rfl (r_ar rfl rfl rfl (IntWalk.i64_in _ (by omega))) ?_ | refine o_r rfl (r_ar rfl rfl rfl rfl) ?_
             first | refine o_r rfl (r_cmp rfl rfl rfl (cmp_t (by omega))) ?_ | refine o_r rfl (r_cmp rfl rfl rfl (cmp_f (by omega))) ?_ | refine o_r rfl (r_cmp rfl rfl rfl rfl) ?_
             refine ow_nil ?_)
          | (refine cw_region (id := 6) ?_
             refine o_p rfl rfl ?_
             refine ow_nil ?_)
          | (refine cw_region (id := 5) ?_
             refine o_p rfl rfl ?_
             first | refine o_r rfl (r_ar rfl rfl rfl (IntWalk.i64_in _ (by omega))) ?_ | refine o_r rfl (r_ar rfl rfl rfl rfl) ?_
             refine o_p rfl rfl ?_
             refine ow_nil ?_))
        refine cw_loop (fun n : Nat => n ≤ tasks.toNat ∧ ∀ m : Nat, m < n → (m : Int) ∈ win zs kk i) (fun n => [(8, .int .i64 (n : Int)), (7, .int .i64 (i : Int)), (0, .slice (some ⟨b, off, none⟩) zs.length cap), (1, .int .i64 tasks), (2, .int .i64 (kk : Int))]) (fun _ => []) (fun _ => [w]) (fun n => tasks.toNat - n) 0 ⟨by omega, by omega⟩ (by repeat (first | exact trivial | refine ⟨rfl, ?_⟩)) rfl rfl ?_
        rintro n ⟨hn, hmem⟩
        by_cases hnt : (n : Int) < tasks
        · have hwl := win_len zs kk i hik
          have hcw : ∀ j x, (win zs kk i)[j]? = some x → w.cell? ⟨b, off + i + j, none⟩ = some (.int .i64 x) := fun j x h => by rw [Nat.add_assoc]; exact hc _ _ (win_get zs kk i j x h)
          have hcall : ∀ r', (r' = true ↔ (n : Int) ∈ win zs kk i) → ∀ s, Below w.heap.size w s → Calls Try.prog 6 #[.slice (some ⟨b, off + i, none⟩) kk (cap - i), .int .i64 (n : Int)] s fun e w' => e = .returned (.bool r') ∧ Below s.heap.size s w' := fun r' hr' s hs => by
            have := has_c s b (off + i) (cap - i) (win zs kk i) n r' (by omega) (by have := hs.size; omega) (fun j x h => by rw [hs.cell hb]; exact hcw j x h) hr'
            rwa [hwl] at this
          by_cases hin : (n : Int) ∈ win zs kk i
          · have hcall := hcall true (by simp [hin])
            repeat (first
              | refine cw_seq ?_
              | refine cw_block ?_
              | refine cw_skip ?_
              | refine cw_label ?_
              | refine cw_exit ?_
              | refine cw_ret ?_
              | refine qw_then ?_
              | refine qw_block_normal ?_
              | refine qw_block_exit ?_
              | refine qw_block_other rfl ?_
              | refine qw_block_ret ?_
              | refine qw_then_ret ?_
              | refine qw_then_exit ?_
              | refine cw_true rfl ?_
              | refine cw_false rfl ?_
              | refine cw_scope ?_
              | refine qw_scope_normal ?_
              | refine qw_scope_ret ?_
              | refine qw_scope_exit ?_
              | (refine cw_region (id := 0) ?_
                 refine o_p rfl rfl ?_
                 refine ow_nil ?_)
              | (refine cw_region (id := 1) ?_
                 refine o_p rfl rfl ?_
                 first | refine o_r rfl (r_cmp rfl rfl rfl (cmp_t (by omega))) ?_ | refine o_r rfl (r_cmp rfl rfl rfl (cmp_f (by omega))) ?_ | refine o_r rfl (r_cmp rfl rfl rfl rfl) ?_
                 refine ow_nil ?_)
              | (refine cw_region (id := 2) ?_
                 refine o_p rfl rfl ?_
                 refine ow_nil ?_)
              | (refine cw_region (id := 3) ?_
                 refine o_p rfl rfl ?_
                 refine ow_nil ?_)
              | (refine cw_region (id := 4) ?_
                 refine o_p rfl rfl ?_
                 refine o_p rfl rfl ?_
                 refine o_r rfl (rd_len_sl rfl Try.underlying22 rfl) ?_
                 refine o_p rfl rfl ?_
                 first | refine o_r rfl (r_ar rfl rfl rfl (IntWalk.i64_in _ (by omega))) ?_ | refine o_r rfl (r_ar rfl rfl rfl rfl) ?_
                 first | refine o_r rfl (r_cmp rfl rfl rfl (cmp_t (by omega))) ?_ | refine o_r rfl (r_cmp rfl rfl rfl (cmp_f (by omega))) ?_ | refine o_r rfl (r_cmp rfl rfl rfl rfl) ?_
                 refine ow_nil ?_)
              | (refine cw_region (id := 6) ?_
                 refine o_p rfl rfl ?_
                 refine ow_nil ?_)
              | (refine cw_region (id := 7) ?_
                 refine o_p rfl rfl ?_
                 refine o_p rfl rfl ?_
                 first | refine o_r rfl (r_cmp rfl rfl rfl (cmp_t (by omega))) ?_ | refine o_r rfl (r_cmp rfl rfl rfl (cmp_f (by omega))) ?_ | refine o_r rfl (r_cmp rfl rfl rfl rfl) ?_
                 refine ow_nil ?_)
              | (refine cw_region (id := 9) ?_
                 refine o_p rfl rfl ?_
                 refine o_p rfl rfl ?_
                 refine o_p rfl rfl ?_
                 refine o_p rfl rfl ?_
                 first | refine o_r rfl (r_ar rfl rfl rfl (IntWalk.i64_in _ (by omega))) ?_ | refine o_r rfl (r_ar rfl rfl rfl rfl) ?_
                 refine o_r rfl (rd_slice_lh Try.underlying22 sz3 rfl rfl rfl (by omega) (by omega) (by omega) (by omega) (o' := off + i) (n' := kk) (c' := cap - i) (by omega) (by omega) (by omega)) ?_
                 refine o_p rfl rfl ?_
                 (refine o_c rfl rfl rfl en6 rfl (fun s hs => (hcall _ (hs.below (by simp) (by simp only [keysOf, List.map_cons, List.map_nil, List.forall_mem_cons, List.not_mem_nil, false_imp_iff, implies_true, and_true] <;> omega))).mono ?_); rintro e w' ⟨rfl, hb⟩; refine ⟨_, _, _, rfl, hs.grow hb, ?_⟩; clear hb hs w' s)
                 refine o_p rfl rfl ?_
                 refine ow_nil ?_)
              | (refine cw_region (id := 8) ?_
                 refine o_p rfl rfl ?_
                 first | refine o_r rfl (r_ar rfl rfl rfl (IntWalk.i64_in _ (by omega))) ?_ | refine o_r rfl (r_ar rfl rfl rfl rfl) ?_
                 refine o_p rfl rfl ?_
                 refine ow_nil ?_)
              | (refine cw_region (id := 5) ?_
                 refine o_p rfl rfl ?_
                 first | refine o_r rfl (r_ar rfl rfl rfl (IntWalk.i64_in _ (by omega))) ?_ | refine o_r rfl (r_ar rfl rfl rfl rfl) ?_
                 refine o_p rfl rfl ?_
                 refine ow_nil ?_))
            refine qw_again (n + 1) ⟨by omega, fun m hm => ?_⟩ (by repeat (first | exact trivial | refine ⟨rfl, ?_⟩)) (by omega) (fun _ h => h)
            rcases Nat.lt_succ_iff_lt_or_eq.1 hm with h | rfl
            · exact hmem m h
            · exact hin
          · have hcall := hcall false (by simp [hin])
            have : r = false := by
              cases r with
              | false => rfl
              | true => exact absurd ((hr.1 rfl).2 i (by simpa using hik) n hnt) (by simpa using hin)
            subst this
            repeat (first
              | refine cw_seq ?_
              | refine cw_block ?_
              | refine cw_skip ?_
              | refine cw_label ?_
              | refine cw_exit ?_
              | refine cw_ret ?_
              | refine qw_then ?_
              | refine qw_block_normal ?_
              | refine qw_block_exit ?_
              | refine qw_block_other rfl ?_
              | refine qw_block_ret ?_
              | refine qw_then_ret ?_
              | refine qw_then_exit ?_
              | refine cw_true rfl ?_
              | refine cw_false rfl ?_
              | refine cw_scope ?_
              | refine qw_scope_normal ?_
              | refine qw_scope_ret ?_
              | refine qw_scope_exit ?_
              | (refine cw_region (id := 0) ?_
                 refine o_p rfl rfl ?_
                 refine ow_nil ?_)
              | (refine cw_region (id := 1) ?_
                 refine o_p rfl rfl ?_
                 first | refine o_r rfl (r_cmp rfl rfl rfl (cmp_t (by omega))) ?_ | refine o_r rfl (r_cmp rfl rfl rfl (cmp_f (by omega))) ?_ | refine o_r rfl (r_cmp rfl rfl rfl rfl) ?_
                 refine ow_nil ?_)
              | (refine cw_region (id := 2) ?_
                 refine o_p rfl rfl ?_
                 refine ow_nil ?_)
              | (refine cw_region (id := 3) ?_
                 refine o_p rfl rfl ?_
                 refine ow_nil ?_)
              | (refine cw_region (id := 4) ?_
                 refine o_p rfl rfl ?_
                 refine o_p rfl rfl ?_
                 refine o_r rfl (rd_len_sl rfl Try.underlying22 rfl) ?_
                 refine o_p rfl rfl ?_
                 first | refine o_r rfl (r_ar rfl rfl rfl (IntWalk.i64_in _ (by omega))) ?_ | refine o_r rfl (r_ar rfl rfl rfl rfl) ?_
                 first | refine o_r rfl (r_cmp rfl rfl rfl (cmp_t (by omega))) ?_ | refine o_r rfl (r_cmp rfl rfl rfl (cmp_f (by omega))) ?_ | refine o_r rfl (r_cmp rfl rfl rfl rfl) ?_
                 refine ow_nil ?_)
              | (refine cw_region (id := 6) ?_
                 refine o_p rfl rfl ?_
                 refine ow_nil ?_)
              | (refine cw_region (id := 7) ?_
                 refine o_p rfl rfl ?_
                 refine o_p rfl rfl ?_
                 first | refine o_r rfl (r_cmp rfl rfl rfl (cmp_t (by omega))) ?_ | refine o_r rfl (r_cmp rfl rfl rfl (cmp_f (by omega))) ?_ | refine o_r rfl (r_cmp rfl rfl rfl rfl) ?_
                 refine ow_nil ?_)
              | (refine cw_region (id := 9) ?_
                 refine o_p rfl rfl ?_
                 refine o_p rfl rfl ?_
                 refine o_p rfl rfl ?_
                 refine o_p rfl rfl ?_
                 first | refine o_r rfl (r_ar rfl rfl rfl (IntWalk.i64_in _ (by omega))) ?_ | refine o_r rfl (r_ar rfl rfl rfl rfl) ?_
                 refine o_r rfl (rd_slice_lh Try.underlying22 sz3 rfl rfl rfl (by omega) (by omega) (by omega) (by omega) (o' := off + i) (n' := kk) (c' := cap - i) (by omega) (by omega) (by omega)) ?_
                 refine o_p rfl rfl ?_
                 (refine o_c rfl rfl rfl en6 rfl (fun s hs => (hcall _ (hs.below (by simp) (by simp only [keysOf, List.map_cons, List.map_nil, List.forall_mem_cons, List.not_mem_nil, false_imp_iff, implies_true, and_true] <;> omega))).mono ?_); rintro e w' ⟨rfl, hb⟩; refine ⟨_, _, _, rfl, hs.grow hb, ?_⟩; clear hb hs w' s)
                 refine o_p rfl rfl ?_
                 refine ow_nil ?_)
              | (refine cw_region (id := 10) ?_
                 refine o_p rfl rfl ?_
                 refine ow_nil ?_)
              | (refine cw_region (id := 8) ?_
                 refine o_p rfl rfl ?_
                 first | refine o_r rfl (r_ar rfl rfl rfl (IntWalk.i64_in _ (by omega))) ?_ | refine o_r rfl (r_ar rfl rfl rfl rfl) ?_
                 refine o_p rfl rfl ?_
                 refine ow_nil ?_)
              | (refine cw_region (id := 5) ?_
                 refine o_p rfl rfl ?_
                 first | refine o_r rfl (r_ar rfl rfl rfl (IntWalk.i64_in _ (by omega))) ?_ | refine o_r rfl (r_ar rfl rfl rfl rfl) ?_
                 refine o_p rfl rfl ?_
                 refine ow_nil ?_)
              | (refine cw_region (id := 11) ?_
                 refine o_p rfl rfl ?_
                 refine ow_nil ?_))
            exact fin1 (.inl rfl) rfl (res_tmp rfl) (fun v hv => ⟨rfl, hv.below (by simp) (by simp only [keysOf, List.map_cons, List.map_nil, List.forall_mem_cons, List.not_mem_nil, false_imp_iff, implies_true, and_true] <;> omega)⟩)
        · repeat (first
            | refine cw_seq ?_
            | refine cw_block ?_
            | refine cw_skip ?_
            | refine cw_label ?_
            | refine cw_exit ?_
            | refine cw_ret ?_
            | refine qw_then ?_
            | refine qw_block_normal ?_
            | refine qw_block_exit ?_
            | refine qw_block_other rfl ?_
            | refine qw_block_ret ?_
            | refine qw_then_ret ?_
            | refine qw_then_exit ?_
            | refine cw_true rfl ?_
            | refine cw_false rfl ?_
            | refine cw_scope ?_
            | refine qw_scope_normal ?_
            | refine qw_scope_ret ?_
            | refine qw_scope_exit ?_
            | (refine cw_region (id := 0) ?_
               refine o_p rfl rfl ?_
               refine ow_nil ?_)
            | (refine cw_region (id := 1) ?_
               refine o_p rfl rfl ?_
               first | refine o_r rfl (r_cmp rfl rfl rfl (cmp_t (by omega))) ?_ | refine o_r rfl (r_cmp rfl rfl rfl (cmp_f (by omega))) ?_ | refine o_r rfl (r_cmp rfl rfl rfl rfl) ?_
               refine ow_nil ?_)
            | (refine cw_region (id := 2) ?_
               refine o_p rfl rfl ?_
               refine ow_nil ?_)
            | (refine cw_region (id := 3) ?_
               refine o_p rfl rfl ?_
               refine ow_nil ?_)
            | (refine cw_region (id := 4) ?_
               refine o_p rfl rfl ?_
               refine o_p rfl rfl ?_
               refine o_r rfl (rd_len_sl rfl Try.underlying22 rfl) ?_
               refine o_p rfl rfl ?_
               first | refine o_r rfl (r_ar rfl rfl rfl (IntWalk.i64_in _ (by omega))) ?_ | refine o_r rfl (r_ar rfl rfl rfl rfl) ?_
               first | refine o_r rfl (r_cmp rfl rfl rfl (cmp_t (by omega))) ?_ | refine o_r rfl (r_cmp rfl rfl rfl (cmp_f (by omega))) ?_ | refine o_r rfl (r_cmp rfl rfl rfl rfl) ?_
               refine ow_nil ?_)
            | (refine cw_region (id := 6) ?_
               refine o_p rfl rfl ?_
               refine ow_nil ?_)
            | (refine cw_region (id := 7) ?_
               refine o_p rfl rfl ?_
               refine o_p rfl rfl ?_
               first | refine o_r rfl (r_cmp rfl rfl rfl (cmp_t (by omega))) ?_ | refine o_r rfl (r_cmp rfl rfl rfl (cmp_f (by omega))) ?_ | refine o_r rfl (r_cmp rfl rfl rfl rfl) ?_
               refine ow_nil ?_)
            | (refine cw_region (id := 5) ?_
               refine o_p rfl rfl ?_
               first | refine o_r rfl (r_ar rfl rfl rfl (IntWalk.i64_in _ (by omega))) ?_ | refine o_r rfl (r_ar rfl rfl rfl rfl) ?_
               refine o_p rfl rfl ?_
               refine ow_nil ?_))
          refine qw_again (i + 1) ⟨by omega, fun j hj => ?_⟩ (by repeat (first | exact trivial | refine ⟨rfl, ?_⟩)) (by omega) (fun _ h => h)
          rcases Nat.lt_succ_iff_lt_or_eq.1 hj with h | rfl
          · exact hok j h
          · exact fun m hm => hmem m (by omega)
      · have : r = true := hr.2 ⟨by omega, fun j hj => hok j (by simp at hj; omega)⟩
        subst this
        repeat (first
          | refine cw_seq ?_
          | refine cw_block ?_
          | refine cw_skip ?_
          | refine cw_label ?_
          | refine cw_exit ?_
          | refine cw_ret ?_
          | refine qw_then ?_
          | refine qw_block_normal ?_
          | refine qw_block_exit ?_
          | refine qw_block_other rfl ?_
          | refine qw_block_ret ?_
          | refine qw_then_ret ?_
          | refine qw_then_exit ?_
          | refine cw_true rfl ?_
          | refine cw_false rfl ?_
          | refine cw_scope ?_
          | refine qw_scope_normal ?_
          | refine qw_scope_ret ?_
          | refine qw_scope_exit ?_
          | (refine cw_region (id := 0) ?_
             refine o_p rfl rfl ?_
             refine ow_nil ?_)
          | (refine cw_region (id := 1) ?_
             refine o_p rfl rfl ?_
             first | refine o_r rfl (r_cmp rfl rfl rfl (cmp_t (by omega))) ?_ | refine o_r rfl (r_cmp rfl rfl rfl (cmp_f (by omega))) ?_ | refine o_r rfl (r_cmp rfl rfl rfl rfl) ?_
             refine ow_nil ?_)
          | (refine cw_region (id := 2) ?_
             refine o_p rfl rfl ?_
             refine ow_nil ?_)
          | (refine cw_region (id := 3) ?_
             refine o_p rfl rfl ?_
             refine ow_nil ?_)
          | (refine cw_region (id := 4) ?_
             refine o_p rfl rfl ?_
             refine o_p rfl rfl ?_
             refine o_r rfl (rd_len_sl rfl Try.underlying22 rfl) ?_
             refine o_p rfl rfl ?_
             first | refine o_r rfl (r_ar rfl rfl rfl (IntWalk.i64_in _ (by omega))) ?_ | refine o_r rfl (r_ar rfl rfl rfl rfl) ?_
             first | refine o_r rfl (r_cmp rfl rfl rfl (cmp_t (by omega))) ?_ | refine o_r rfl (r_cmp rfl rfl rfl (cmp_f (by omega))) ?_ | refine o_r rfl (r_cmp rfl rfl rfl rfl) ?_
             refine ow_nil ?_)
          | (refine cw_region (id := 6) ?_
             refine o_p rfl rfl ?_
             refine ow_nil ?_)
          | (refine cw_region (id := 7) ?_
             refine o_p rfl rfl ?_
             refine o_p rfl rfl ?_
             first | refine o_r rfl (r_cmp rfl rfl rfl (cmp_t (by omega))) ?_ | refine o_r rfl (r_cmp rfl rfl rfl (cmp_f (by omega))) ?_ | refine o_r rfl (r_cmp rfl rfl rfl rfl) ?_
             refine ow_nil ?_)
          | (refine cw_region (id := 10) ?_
             refine o_p rfl rfl ?_
             refine ow_nil ?_)
          | (refine cw_region (id := 8) ?_
             refine o_p rfl rfl ?_
             first | refine o_r rfl (r_ar rfl rfl rfl (IntWalk.i64_in _ (by omega))) ?_ | refine o_r rfl (r_ar rfl rfl rfl rfl) ?_
             refine o_p rfl rfl ?_
             refine ow_nil ?_)
          | (refine cw_region (id := 5) ?_
             refine o_p rfl rfl ?_
             first | refine o_r rfl (r_ar rfl rfl rfl (IntWalk.i64_in _ (by omega))) ?_ | refine o_r rfl (r_ar rfl rfl rfl rfl) ?_
             refine o_p rfl rfl ?_
             refine ow_nil ?_)
          | (refine cw_region (id := 11) ?_
             refine o_p rfl rfl ?_
             refine ow_nil ?_))
        exact fin1 (.inl rfl) rfl (res_tmp rfl) (fun v hv => ⟨rfl, hv.below (by simp) (by simp only [keysOf, List.map_cons, List.map_nil, List.forall_mem_cons, List.not_mem_nil, false_imp_iff, implies_true, and_true] <;> omega)⟩)
end Go.Proofs.Ytjnhoamedobdaaa

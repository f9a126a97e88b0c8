import Derived.Test.YtjnhoamedobdaaaFair
namespace Go.Proofs.Ytjnhoamedobdaaa
open Go.RowKit
attribute [local irreducible] Go.Calls
theorem take_next {l : List Int} {j : Nat} {x : Int} (h : l[j]? = some x) (n : Int) : n ∈ l.take (j + 1) ↔ n ∈ l.take j ∨ n = x := by
  rw [List.take_add_one, h]; simp
/-- what is met among the first of some -/
def Met (L : List (Int × Int × Nat)) (l : List Int) (j : Nat) : Prop := ∀ n, 0 ≤ getI L n ∧ getI L n ≤ j ∧ (getI L n = 0 ↔ ¬ n ∈ l.take j)
theorem met_zero (l : List Int) : Met [] l 0 := fun n => by simp [getI]
theorem met_next {L : List (Int × Int × Nat)} {l : List Int} {j : Nat} {x : Int} (c : Nat) (h : Met L l j) (hx : l[j]? = some x) : Met (putI L x (getI L x + 1) c) l (j + 1) := fun n => by
  have h1 := h n
  rw [getI_putI, take_next hx]
  by_cases hn : n = x
  · subst hn; rw [if_pos rfl]; exact ⟨by omega, by omega, ⟨fun e => by omega, fun e => absurd (.inr rfl) e⟩⟩
  · rw [if_neg hn]; exact ⟨by omega, by omega, by rw [h1.2.2]; simp [hn]⟩
theorem fair_c (w : World) (v : Value) (zs : List Int) (tasks k : Int) (r : Bool) (hs : IsSl w v zs) (hz : zs.length ≤ 40) (ht : tasks ≤ 20) (hk : k ≤ 9223372036854775807) (hr : (r = true ↔ FairP zs tasks k)) :
    Calls Try.prog 4 #[v, .int .i64 tasks, .int .i64 k] w fun e w' => e = .returned (.bool r) ∧ Below w.heap.size w w' := by
  by_cases hk1 : k < 1
  · have : r = false := by
      cases r with
      | false => rfl
      | true => have := (hr.1 rfl).1; omega
    subst this
    refine enter Try.func4 rfl (Nat.le_of_ble_eq_true rfl) (kn0 w) (vs := [_, _, _]) (fr0 := [(0, _), (1, _), (2, _)]) rfl (n := 53) rfl ?_
    repeat (first
      | refine cw_seq ?_
      | refine cw_block ?_
      | refine cw_skip ?_
      | refine cw_label ?_
      | refine cw_exit ?_
      | refine cw_ret ?_
      | refine qw_then ?_
      | refine qw_block_normal ?_
      | refine qw_block_exit ?_
      | refine qw_block_other rfl ?_
      | refine qw_block_ret ?_
      | refine qw_then_ret ?_
      | refine qw_then_exit ?_
      | refine cw_true rfl ?_
      | refine cw_false rfl ?_
      | refine cw_scope ?_
      | refine qw_scope_normal ?_
      | refine qw_scope_ret ?_
      | refine qw_scope_exit ?_
      | (refine cw_region (id := 0) ?_
         refine o_p rfl rfl ?_
         refine ow_nil ?_)
      | (refine cw_region (id := 1) ?_
         (refine o_a rfl al_makeMap (fun b12 fb12 => ?_); try simp only [fresh_iff, keysOf, List.map_cons, List.map_nil, List.forall_mem_cons, List.not_mem_nil, false_imp_iff, implies_true, and_true] at fb12)
         refine o_p rfl rfl ?_
         refine ow_nil ?_)
      | (refine cw_region (id := 2) ?_
         refine o_p rfl rfl ?_
         refine ow_nil ?_))
    refine cw_loop (fun _ : Unit => True) (fun _ => [(8, .int .i64 0), (0, v), (1, .int .i64 tasks), (2, .int .i64 k)]) (fun _ => [(b12, .map (ents []) 0)]) (fun _ => [w]) (fun _ => 0) () trivial (by repeat (first | exact trivial | refine ⟨rfl, ?_⟩)) rfl rfl ?_
    intro _ _
    repeat (first
      | refine cw_seq ?_
      | refine cw_block ?_
      | refine cw_skip ?_
      | refine cw_label ?_
      | refine cw_exit ?_
      | refine cw_ret ?_
      | refine qw_then ?_
      | refine qw_block_normal ?_
      | refine qw_block_exit ?_
      | refine qw_block_other rfl ?_
      | refine qw_block_ret ?_
      | refine qw_then_ret ?_
      | refine qw_then_exit ?_
      | refine cw_true rfl ?_
      | refine cw_false rfl ?_
      | refine cw_scope ?_
      | refine qw_scope_normal ?_
      | refine qw_scope_ret ?_
      | refine qw_scope_exit ?_
      | (refine cw_region (id := 0) ?_
         refine o_p rfl rfl ?_
         refine ow_nil ?_)
      | (refine cw_region (id := 1) ?_
         (refine o_a rfl al_makeMap (fun b12 fb12 => ?_); try simp only [fresh_iff, keysOf, List.map_cons, List.map_nil, List.forall_mem_cons, List.not_mem_nil, false_imp_iff, implies_true, and_true] at fb12)
         refine o_p rfl rfl ?_
         refine ow_nil ?_)
      | (refine cw_region (id := 2) ?_
         refine o_p rfl rfl ?_
         refine ow_nil ?_)
      | (refine cw_region (id := 3) ?_
         refine o_p rfl rfl ?_
         first | refine o_r rfl (r_cmp rfl rfl rfl (cmp_t (by omega))) ?_ | refine o_r rfl (r_cmp rfl rfl rfl (cmp_f (by omega))) ?_ | refine o_r rfl (r_cmp rfl rfl rfl rfl) ?_
         refine o_p rfl rfl ?_
         first | refine o_k rfl ?_ | refine o_p rfl rfl ?_
         first | refine o_k rfl ?_ | refine o_p rfl rfl ?_
         first | refine o_k rfl ?_ | refine o_r rfl (rd_len_sl rfl Try.underlying22 rfl) ?_
         first | refine o_k rfl ?_ | refine o_p rfl rfl ?_
         first | refine o_k rfl ?_ | refine o_r rfl (r_ar rfl rfl rfl (IntWalk.i64_in _ (by omega))) ?_ | refine o_r rfl (r_ar rfl rfl rfl rfl) ?_
         first | refine o_k rfl ?_ | refine o_r rfl (r_cmp rfl rfl rfl (cmp_t (by omega))) ?_ | refine o_r rfl (r_cmp rfl rfl rfl (cmp_f (by omega))) ?_ | refine o_r rfl (r_cmp rfl rfl rfl rfl) ?_
         refine o_p rfl rfl ?_
         refine ow_nil ?_)
      | (refine cw_region (id := 7) ?_
         first | refine o_r rfl (r_cmp rfl rfl rfl (cmp_t (by omega))) ?_ | refine o_r rfl (r_cmp rfl rfl rfl (cmp_f (by omega))) ?_ | refine o_r rfl (r_cmp rfl rfl rfl rfl) ?_
         refine ow_nil ?_)
      | (refine cw_region (id := 8) ?_
         first | refine o_r rfl (rd_indexAddr_sl Try.underlying22 sz3 rfl rfl (by omega) (by omega) (by rw [Nat.mul_one])) ?_ | refine o_r rfl (rd_indexAddr_sl Try.underlying22 sz3 rfl rfl (by omega) (by omega) rfl) ?_
         refine o_r rfl (rd_load rfl (by repeat (first | exact List.Mem.head _ | apply List.Mem.tail)) one3 (by first | rfl | assumption)) ?_
         refine o_p rfl rfl ?_
         refine ow_nil ?_)
      | (refine cw_region (id := 10) ?_
         first | refine o_r rfl (r_ar rfl rfl rfl (IntWalk.i64_in _ (by omega))) ?_ | refine o_r rfl (r_ar rfl rfl rfl rfl) ?_
         refine o_p rfl rfl ?_
         refine ow_nil ?_)
      | (refine cw_region (id := 11) ?_
         refine o_p rfl rfl ?_
         refine o_p rfl rfl ?_
         refine ow_nil ?_)
      | (refine cw_region (id := 12) ?_
         first | refine o_r rfl (r_cmp rfl rfl rfl (cmp_t (by omega))) ?_ | refine o_r rfl (r_cmp rfl rfl rfl (cmp_f (by omega))) ?_ | refine o_r rfl (r_cmp rfl rfl rfl rfl) ?_
         refine ow_nil ?_)
      | (refine cw_region (id := 13) ?_
         refine o_p rfl rfl ?_
         refine o_p rfl rfl ?_
         refine ow_nil ?_)
      | (refine cw_region (id := 15) ?_
         refine o_p rfl rfl ?_
         refine ow_nil ?_)
      | (refine cw_region (id := 16) ?_
         first | refine o_r rfl (r_ar rfl rfl rfl (IntWalk.i64_in _ (by omega))) ?_ | refine o_r rfl (r_ar rfl rfl rfl rfl) ?_
         refine o_p rfl rfl ?_
         refine ow_nil ?_)
      | (refine cw_region (id := 4) ?_
         refine o_p rfl rfl ?_
         first | refine o_r rfl (r_ar rfl rfl rfl (IntWalk.i64_in _ (by omega))) ?_ | refine o_r rfl (r_ar rfl rfl rfl rfl) ?_
         refine o_p rfl rfl ?_
         refine ow_nil ?_)
      | (refine cw_region (id := 17) ?_
         refine o_p rfl rfl ?_
         first | refine o_r rfl (r_cmp rfl rfl rfl (cmp_t (by omega))) ?_ | refine o_r rfl (r_cmp rfl rfl rfl (cmp_f (by omega))) ?_ | refine o_r rfl (r_cmp rfl rfl rfl rfl) ?_
         refine o_p rfl rfl ?_
         refine ow_nil ?_))
    exact fin1 (.inl rfl) rfl (res_tmp rfl) (fun v hv => ⟨rfl, hv.below (by simp) (by simp only [keysOf, List.map_cons, List.map_nil, List.forall_mem_cons, List.not_mem_nil, false_imp_iff, implies_true, and_true] <;> omega)⟩)
  · obtain ⟨kk, rfl⟩ := Int.eq_ofNat_of_zero_le (show 0 ≤ k by omega)
    rcases hs with ⟨ad, cap, rfl, rfl⟩ | ⟨b, off, cap, rfl, hcap, hb, hc⟩
    · have : r = true := hr.2 ⟨by omega, fun i hi => by simp at hi; omega⟩
      subst this
      refine enter Try.func4 rfl (Nat.le_of_ble_eq_true rfl) (kn0 w) (vs := [_, _, _]) (fr0 := [(0, _), (1, _), (2, _)]) rfl (n := 53) rfl ?_
      repeat (first
        | refine cw_seq ?_
        | refine cw_block ?_
        | refine cw_skip ?_
        | refine cw_label ?_
        | refine cw_exit ?_
        | refine cw_ret ?_
        | refine qw_then ?_
        | refine qw_block_normal ?_
        | refine qw_block_exit ?_
        | refine qw_block_other rfl ?_
        | refine qw_block_ret ?_
        | refine qw_then_ret ?_
        | refine qw_then_exit ?_
        | refine cw_true rfl ?_
        | refine cw_false rfl ?_
        | refine cw_scope ?_
        | refine qw_scope_normal ?_
        | refine qw_scope_ret ?_
        | refine qw_scope_exit ?_
        | (refine cw_region (id := 0) ?_
           refine o_p rfl rfl ?_
           refine ow_nil ?_)
        | (refine cw_region (id := 1) ?_
           (refine o_a rfl al_makeMap (fun b12 fb12 => ?_); try simp only [fresh_iff, keysOf, List.map_cons, List.map_nil, List.forall_mem_cons, List.not_mem_nil, false_imp_iff, implies_true, and_true] at fb12)
           refine o_p rfl rfl ?_
           refine ow_nil ?_)
        | (refine cw_region (id := 2) ?_
           refine o_p rfl rfl ?_
           refine ow_nil ?_))
      refine cw_loop (fun _ : Unit => True) (fun _ => [(8, .int .i64 0), (0, .slice ad 0 cap), (1, .int .i64 tasks), (2, .int .i64 (kk : Int))]) (fun _ => [(b12, .map (ents []) 0)]) (fun _ => [w]) (fun _ => 0) () trivial (by repeat (first | exact trivial | refine ⟨rfl, ?_⟩)) rfl rfl ?_
      intro _ _
      repeat (first
        | refine cw_seq ?_
        | refine cw_block ?_
        | refine cw_skip ?_
        | refine cw_label ?_
        | refine cw_exit ?_
        | refine cw_ret ?_
        | refine qw_then ?_
        | refine qw_block_normal ?_
        | refine qw_block_exit ?_
        | refine qw_block_other rfl ?_
        | refine qw_block_ret ?_
        | refine qw_then_ret ?_
        | refine qw_then_exit ?_
        | refine cw_true rfl ?_
        | refine cw_false rfl ?_
        | refine cw_scope ?_
        | refine qw_scope_normal ?_
        | refine qw_scope_ret ?_
        | refine qw_scope_exit ?_
        | (refine cw_region (id := 0) ?_
           refine o_p rfl rfl ?_
           refine ow_nil ?_)
        | (refine cw_region (id := 1) ?_
           (refine o_a rfl al_makeMap (fun b12 fb12 => ?_); try simp only [fresh_iff, keysOf, List.map_cons, List.map_nil, List.forall_mem_cons, List.not_mem_nil, false_imp_iff, implies_true, and_true] at fb12)
           refine o_p rfl rfl ?_
           refine ow_nil ?_)
        | (refine cw_region (id := 2) ?_
           refine o_p rfl rfl ?_
           refine ow_nil ?_)
        | (refine cw_region (id := 3) ?_
           refine o_p rfl rfl ?_
           first | refine o_r rfl (r_cmp rfl rfl rfl (cmp_t (by omega))) ?_ | refine o_r rfl (r_cmp rfl rfl rfl (cmp_f (by omega))) ?_ | refine o_r rfl (r_cmp rfl rfl rfl rfl) ?_
           refine o_p rfl rfl ?_
           first | refine o_k rfl ?_ | refine o_p rfl rfl ?_
           first | refine o_k rfl ?_ | refine o_p rfl rfl ?_
           first | refine o_k rfl ?_ | refine o_r rfl (rd_len_sl rfl Try.underlying22 rfl) ?_
           first | refine o_k rfl ?_ | refine o_p rfl rfl ?_
           first | refine o_k rfl ?_ | refine o_r rfl (r_ar rfl rfl rfl (IntWalk.i64_in _ (by omega))) ?_ | refine o_r rfl (r_ar rfl rfl rfl rfl) ?_
           first | refine o_k rfl ?_ | refine o_r rfl (r_cmp rfl rfl rfl (cmp_t (by omega))) ?_ | refine o_r rfl (r_cmp rfl rfl rfl (cmp_f (by omega))) ?_ | refine o_r rfl (r_cmp rfl rfl rfl rfl) ?_
           refine o_p rfl rfl ?_
           refine ow_nil ?_)
        | (refine cw_region (id := 7) ?_
           first | refine o_r rfl (r_cmp rfl rfl rfl (cmp_t (by omega))) ?_ | refine o_r rfl (r_cmp rfl rfl rfl (cmp_f (by omega))) ?_ | refine o_r rfl (r_cmp rfl rfl rfl rfl) ?_
           refine ow_nil ?_)
        | (refine cw_region (id := 8) ?_
           first | refine o_r rfl (rd_indexAddr_sl Try.underlying22 sz3 rfl rfl (by omega) (by omega) (by rw [Nat.mul_one])) ?_ | refine o_r rfl (rd_indexAddr_sl Try.underlying22 sz3 rfl rfl (by omega) (by omega) rfl) ?_
           refine o_r rfl (rd_load rfl (by repeat (first | exact List.Mem.head _ | apply List.Mem.tail)) one3 (by first | rfl | assumption)) ?_
           refine o_p rfl rfl ?_
           refine ow_nil ?_)
        | (refine cw_region (id := 10) ?_
           first | refine o_r rfl (r_ar rfl rfl rfl (IntWalk.i64_in _ (by omega))) ?_ | refine o_r rfl (r_ar rfl rfl rfl rfl) ?_
           refine o_p rfl rfl ?_
           refine ow_nil ?_)
        | (refine cw_region (id := 11) ?_
           refine o_p rfl rfl ?_
           refine o_p rfl rfl ?_
           refine ow_nil ?_)
        | (refine cw_region (id := 12) ?_
           first | refine o_r rfl (r_cmp rfl rfl rfl (cmp_t (by omega))) ?_ | refine o_r rfl (r_cmp rfl rfl rfl (cmp_f (by omega))) ?_ | refine o_r rfl (r_cmp rfl rfl rfl rfl) ?_
           refine ow_nil ?_)
        | (refine cw_region (id := 13) ?_
           refine o_p rfl rfl ?_
           refine o_p rfl rfl ?_
           refine ow_nil ?_)
        | (refine cw_region (id := 15) ?_
           refine o_p rfl rfl ?_
           refine ow_nil ?_)
        | (refine cw_region (id := 16) ?_
           first | refine o_r rfl (r_ar rfl rfl rfl (IntWalk.i64_in _ (by omega))) ?_ | refine o_r rfl (r_ar rfl rfl rfl rfl) ?_
           refine o_p rfl rfl ?_
           refine ow_nil ?_)
        | (refine cw_region (id := 4) ?_
           refine o_p rfl rfl ?_
           first | refine o_r rfl (r_ar rfl rfl rfl (IntWalk.i64_in _ (by omega))) ?_ | refine o_r rfl (r_ar rfl rfl rfl rfl) ?_
           refine o_p rfl rfl ?_
           refine ow_nil ?_)
        | (refine cw_region (id := 17) ?_
           refine o_p rfl rfl ?_
           first | refine o_r rfl (r_cmp rfl rfl rfl (cmp_t (by omega))) ?_ | refine o_r rfl (r_cmp rfl rfl rfl (cmp_f (by omega))) ?_ | refine o_r rfl (r_cmp rfl rfl rfl rfl) ?_
           refine o_p rfl rfl ?_
           refine ow_nil ?_))
      exact fin1 (.inl rfl) rfl (res_tmp rfl) (fun v hv => ⟨rfl, hv.below (by simp) (by simp only [keysOf, List.map_cons, List.map_nil, List.forall_mem_cons, List.not_mem_nil, false_imp_iff, implies_true, and_true] <;> omega)⟩)
    · refine enter Try.func4 rfl (Nat.le_of_ble_eq_true rfl) (kn0 w) (vs := [_, _, _]) (fr0 := [(0, _), (1, _), (2, _)]) rfl (n := 53) rfl ?_
      repeat (first
        | refine cw_seq ?_
        | refine cw_block ?_
        | refine cw_skip ?_
        | refine cw_label ?_
        | refine cw_exit ?_
        | refine cw_ret ?_
        | refine qw_then ?_
        | refine qw_block_normal ?_
        | refine qw_block_exit ?_
        | refine qw_block_other rfl ?_
        | refine qw_block_ret ?_
        | refine qw_then_ret ?_
        | refine qw_then_exit ?_
        | refine cw_true rfl ?_
        | refine cw_false rfl ?_
        | refine cw_scope ?_
        | refine qw_scope_normal ?_
        | refine qw_scope_ret ?_
        | refine qw_scope_exit ?_
        | (refine cw_region (id := 0) ?_
           refine o_p rfl rfl ?_
           refine ow_nil ?_)
        | (refine cw_region (id := 1) ?_
           (refine o_a rfl al_makeMap (fun b12 fb12 => ?_); try simp only [fresh_iff, keysOf, List.map_cons, List.map_nil, List.forall_mem_cons, List.not_mem_nil, false_imp_iff, implies_true, and_true] at fb12)
           refine o_p rfl rfl ?_
           refine ow_nil ?_)
        | (refine cw_region (id := 2) ?_
           refine o_p rfl rfl ?_
           refine ow_nil ?_))
      refine cw_loop (fun x : Nat × List (Int × Int × Nat) × Nat => x.1 ≤ zs.length + 1 ∧ ∀ j, j < x.1 → OkAt zs tasks kk j) (fun x => [(8, .int .i64 (x.1 : Int)), (0, .slice (some ⟨b, off, none⟩) zs.length cap), (1, .int .i64 tasks), (2, .int .i64 (kk : Int)), (7, .map (some b12))]) (fun x => [(b12, .map (ents x.2.1) x.2.2)]) (fun _ => [w]) (fun x => zs.length + 1 - x.1) (0, [], 0) ⟨by omega, by omega⟩ (by repeat (first | exact trivial | refine ⟨rfl, ?_⟩)) rfl rfl ?_
      rintro ⟨i, L, c⟩ ⟨hi, hok⟩
      simp only at hi hok
      have hbk : b ∉ keysOf [(b12, Obj.map (ents L) c)] := by simp [keysOf]; omega
      by_cases hik : i + kk ≤ zs.length
      · have hwl := win_len zs kk i hik
        repeat (first
          | refine cw_seq ?_
          | refine cw_block ?_
          | refine cw_skip ?_
          | refine cw_label ?_
          | refine cw_exit ?_
          | refine cw_ret ?_
          | refine qw_then ?_
          | refine qw_block_normal ?_
          | refine qw_block_exit ?_
          | refine qw_block_other rfl ?_
          | refine qw_block_ret ?_
          | refine qw_then_ret ?_
          | refine qw_then_exit ?_
          | refine cw_true rfl ?_
          | refine cw_false rfl ?_
          | refine cw_scope ?_
          | refine qw_scope_normal ?_
          | refine qw_scope_ret ?_
          | refine qw_scope_exit ?_
          | (refine cw_region (id := 0) ?_
             refine o_p rfl rfl ?_
             refine ow_nil ?_)
          | (refine cw_region (id := 1) ?_
             (refine o_a rfl al_makeMap (fun b12 fb12 => ?_); try simp only [fresh_iff, keysOf, List.map_cons, List.map_nil, List.forall_mem_cons, List.not_mem_nil, false_imp_iff, implies_true, and_true] at fb12)
             refine o_p rfl rfl ?_
             refine ow_nil ?_)
          | (refine cw_region (id := 2) ?_
             refine o_p rfl rfl ?_
             refine ow_nil ?_)
          | (refine cw_region (id := 3) ?_
             refine o_p rfl rfl ?_
             first | refine o_r rfl (r_cmp rfl rfl rfl (cmp_t (by omega))) ?_ | refine o_r rfl (r_cmp rfl rfl rfl (cmp_f (by omega))) ?_ | refine o_r rfl (r_cmp rfl rfl rfl rfl) ?_
             refine o_p rfl rfl ?_
             first | refine o_k rfl ?_ | refine o_p rfl rfl ?_
             first | refine o_k rfl ?_ | refine o_p rfl rfl ?_
             first | refine o_k rfl ?_ | refine o_r rfl (rd_len_sl rfl Try.underlying22 rfl) ?_
             first | refine o_k rfl ?_ | refine o_p rfl rfl ?_
             first | refine o_k rfl ?_ | refine o_r rfl (r_ar rfl rfl rfl (IntWalk.i64_in _ (by omega))) ?_ | refine o_r rfl (r_ar rfl rfl rfl rfl) ?_
             first | refine o_k rfl ?_ | refine o_r rfl (r_cmp rfl rfl rfl (cmp_t (by omega))) ?_ | refine o_r rfl (r_cmp rfl rfl rfl (cmp_f (by omega))) ?_ | refine o_r rfl (r_cmp rfl rfl rfl rfl) ?_
             refine o_p rfl rfl ?_
             refine ow_nil ?_)
          | (refine cw_region (id := 5) ?_
             refine o_p rfl rfl ?_
             refine o_w rfl (wr_clear rfl Try.underlying24 rfl (by repeat (first | exact Upd.here | apply Upd.there))) ?_
             refine ow_nil ?_)
          | (refine cw_region (id := 6) ?_
             refine o_p rfl rfl ?_
             refine o_p rfl rfl ?_
             refine o_p rfl rfl ?_
             refine o_p rfl rfl ?_
             first | refine o_r rfl (r_ar rfl rfl rfl (IntWalk.i64_in _ (by omega))) ?_ | refine o_r rfl (r_ar rfl rfl rfl rfl) ?_
             refine o_r rfl (rd_slice_lh Try.underlying22 sz3 rfl rfl rfl (by omega) (by omega) (by omega) (by omega) (o' := off + i) (n' := kk) (c' := cap - i) (by omega) (by omega) (by omega)) ?_
             refine o_r rfl (rd_len_sl rfl Try.underlying22 rfl) ?_
             refine o_p rfl rfl ?_
             refine ow_nil ?_)
          | (refine cw_region (id := 4) ?_
             refine o_p rfl rfl ?_
             first | refine o_r rfl (r_ar rfl rfl rfl (IntWalk.i64_in _ (by omega))) ?_ | refine o_r rfl (r_ar rfl rfl rfl rfl) ?_
             refine o_p rfl rfl ?_
             refine ow_nil ?_))
        refine cw_loop (fun x : Nat × List (Int × Int × Nat) × Nat => x.1 ≤ kk ∧ Met x.2.1 (win zs kk i) x.1) (fun x => [(33, .int .i64 (x.1 : Int)), (32, .int .i64 (kk : Int)), (31, .slice (some ⟨b, off + i, none⟩) kk (cap - i)), (8, .int .i64 (i : Int)), (0, .slice (some ⟨b, off, none⟩) zs.length cap), (1, .int .i64 tasks), (2, .int .i64 (kk : Int)), (7, .map (some b12))]) (fun x => [(b12, .map (ents x.2.1) x.2.2)]) (fun _ => [w]) (fun x => kk - x.1) (0, [], c) ⟨by omega, met_zero _⟩ (by repeat (first | exact trivial | refine ⟨rfl, ?_⟩)) rfl rfl ?_
        rintro ⟨j, L', c'⟩ ⟨hj, hmet⟩
        simp only at hj hmet
        have hbk' : b ∉ keysOf [(b12, Obj.map (ents L') c')] := by simp [keysOf]; omega
        by_cases hjk : j < kk
        · have hg : (win zs kk i)[j]? = some ((win zs kk i)[j]'(by omega)) := List.getElem?_eq_getElem (by omega)
          obtain ⟨x, hx⟩ : ∃ x, (win zs kk i)[j]? = some x := ⟨_, hg⟩
          have hcell : w.cell? ⟨b, off + i + (j : Int).toNat, none⟩ = some (.int .i64 x) := by rw [Int.toNat_natCast, Nat.add_assoc]; exact hc _ _ (win_get zs kk i j x hx)
          have hm1 := hmet x
          have hnext := met_next c' hmet hx
          have hwrap : IntKind.i64.wrap (getI L' x + 1) = getI L' x + 1 := IntWalk.i64_in _ (by omega)
          repeat (first
            | refine cw_seq ?_
            | refine cw_block ?_
            | refine cw_skip ?_
            | refine cw_label ?_
            | refine cw_exit ?_
            | refine cw_ret ?_
            | refine qw_then ?_
            | refine qw_block_normal ?_
            | refine qw_block_exit ?_
            | refine qw_block_other rfl ?_
            | refine qw_block_ret ?_
            | refine qw_then_ret ?_
            | refine qw_then_exit ?_
            | refine cw_true rfl ?_
            | refine cw_false rfl ?_
            | refine cw_scope ?_
            | refine qw_scope_normal ?_
            | refine qw_scope_ret ?_
            | refine qw_scope_exit ?_
            | (refine cw_region (id := 0) ?_
               refine o_p rfl rfl ?_
               refine ow_nil ?_)
            | (refine cw_region (id := 1) ?_
               (refine o_a rfl al_makeMap (fun b12 fb12 => ?_); try simp only [fresh_iff, keysOf, List.map_cons, List.map_nil, List.forall_mem_cons, List.not_mem_nil, false_imp_iff, implies_true, and_true] at fb12)
               refine o_p rfl rfl ?_
               refine ow_nil ?_)
            | (refine cw_region (id := 2) ?_
               refine o_p rfl rfl ?_
               refine ow_nil ?_)
            | (refine cw_region (id := 3) ?_
               refine o_p rfl rfl ?_
               first | refine o_r rfl (r_cmp rfl rfl rfl (cmp_t (by omega))) ?_ | refine o_r rfl (r_cmp rfl rfl rfl (cmp_f (by omega))) ?_ | refine o_r rfl (r_cmp rfl rfl rfl rfl) ?_
               refine o_p rfl rfl ?_
               first | refine o_k rfl ?_ | refine o_p rfl rfl ?_
               first | refine o_k rfl ?_ | refine o_p rfl rfl ?_
               first | refine o_k rfl ?_ | refine o_r rfl (rd_len_sl rfl Try.underlying22 rfl) ?_
               first | refine o_k rfl ?_ | refine o_p rfl rfl ?_
               first | refine o_k rfl ?_ | refine o_r rfl (r_ar rfl rfl rfl (IntWalk.i64_in _ (by omega))) ?_ | refine o_r rfl (r_ar rfl rfl rfl rfl) ?_
               first | refine o_k rfl ?_ | refine o_r rfl (r_cmp rfl rfl rfl (cmp_t (by omega))) ?_ | refine o_r rfl (r_cmp rfl rfl rfl (cmp_f (by omega))) ?_ | refine o_r rfl (r_cmp rfl rfl rfl rfl) ?_
               refine o_p rfl rfl ?_
               refine ow_nil ?_)
            | (refine cw_region (id := 5) ?_
               refine o_p rfl rfl ?_
               first | 
               refine ow_nil ?_)
            | (refine cw_region (id := 7) ?_
               first | refine o_r rfl (r_cmp rfl rfl rfl (cmp_t (by omega))) ?_ | refine o_r rfl (r_cmp rfl rfl rfl (cmp_f (by omega))) ?_ | refine o_r rfl (r_cmp rfl rfl rfl rfl) ?_
               refine ow_nil ?_)
            | (refine cw_region (id := 8) ?_
               refine o_r rfl (rd_indexAddr_sl Try.underlying22 sz3 rfl rfl (by omega) (by omega) (by rw [Nat.mul_one])) ?_
               refine o_r rfl (rd_load_old rfl (List.mem_singleton.2 rfl) one3 hcell hb hbk') ?_
               refine o_p rfl rfl ?_
               refine ow_nil ?_)
            | (refine cw_region (id := 9) ?_
               refine o_p rfl rfl ?_
               refine o_p rfl rfl ?_
               refine o_r rfl (rd_lookup_i Try.underlying24 Try.underlying3 zk3 rfl rfl (by repeat (first | exact List.Mem.head _ | apply List.Mem.tail))) ?_
               refine o_r rfl (r_ar rfl rfl rfl hwrap) ?_
               refine o_w rfl (wr_update_i Try.underlying24 Try.underlying3 rfl rfl rfl (by repeat (first | exact Upd.here | apply Upd.there))) ?_
               refine ow_nil ?_)
            | (refine cw_region (id := 10) ?_
               first | refine o_r rfl (r_ar rfl rfl rfl (IntWalk.i64_in _ (by omega))) ?_ | refine o_r rfl (r_ar rfl rfl rfl rfl) ?_
               refine o_p rfl rfl ?_
               refine ow_nil ?_)
            | (refine cw_region (id := 4) ?_
               refine o_p rfl rfl ?_
               first | refine o_r rfl (r_ar rfl rfl rfl (IntWalk.i64_in _ (by omega))) ?_ | refine o_r rfl (r_ar rfl rfl rfl rfl) ?_
               refine o_p rfl rfl ?_
               refine ow_nil ?_))
          exact qw_again (j + 1, putI L' x (getI L' x + 1) c', clkI L' x c') ⟨by omega, hnext⟩ (by repeat (first | exact trivial | refine ⟨rfl, ?_⟩)) (by show kk - (j + 1) < kk - j; omega) (fun _ h => h)
        · have : j = kk := by omega
          subst this
          have hall : ∀ n, getI L' n = 0 ↔ ¬ n ∈ win zs j i := fun n => by have := (hmet n).2.2; rwa [List.take_of_length_le (by omega)] at this
          repeat (first
            | refine cw_seq ?_
            | refine cw_block ?_
            | refine cw_skip ?_
            | refine cw_label ?_
            | refine cw_exit ?_
            | refine cw_ret ?_
            | refine qw_then ?_
            | refine qw_block_normal ?_
            | refine qw_block_exit ?_
            | refine qw_block_other rfl ?_
            | refine qw_block_ret ?_
            | refine qw_then_ret ?_
            | refine qw_then_exit ?_
            | refine cw_true rfl ?_
            | refine cw_false rfl ?_
            | refine cw_scope ?_
            | refine qw_scope_normal ?_
            | refine qw_scope_ret ?_
            | refine qw_scope_exit ?_
            | (refine cw_region (id := 0) ?_
               refine o_p rfl rfl ?_
               refine ow_nil ?_)
            | (refine cw_region (id := 1) ?_
               (refine o_a rfl al_makeMap (fun b12 fb12 => ?_); try simp only [fresh_iff, keysOf, List.map_cons, List.map_nil, List.forall_mem_cons, List.not_mem_nil, false_imp_iff, implies_true, and_true] at fb12)
               refine o_p rfl rfl ?_
               refine ow_nil ?_)
            | (refine cw_region (id := 2) ?_
               refine o_p rfl rfl ?_
               refine ow_nil ?_)
            | (refine cw_region (id := 3) ?_
               refine o_p rfl rfl ?_
               first | refine o_r rfl (r_cmp rfl rfl rfl (cmp_t (by omega))) ?_ | refine o_r rfl (r_cmp rfl rfl rfl (cmp_f (by omega))) ?_ | refine o_r rfl (r_cmp rfl rfl rfl rfl) ?_
               refine o_p rfl rfl ?_
               first | refine o_k rfl ?_ | refine o_p rfl rfl ?_
               first | refine o_k rfl ?_ | refine o_p rfl rfl ?_
               first | refine o_k rfl ?_ | refine o_r rfl (rd_len_sl rfl Try.underlying22 rfl) ?_
               first | refine o_k rfl ?_ | refine o_p rfl rfl ?_
               first | refine o_k rfl ?_ | refine o_r rfl (r_ar rfl rfl rfl (IntWalk.i64_in _ (by omega))) ?_ | refine o_r rfl (r_ar rfl rfl rfl rfl) ?_
               first | refine o_k rfl ?_ | refine o_r rfl (r_cmp rfl rfl rfl (cmp_t (by omega))) ?_ | refine o_r rfl (r_cmp rfl rfl rfl (cmp_f (by omega))) ?_ | refine o_r rfl (r_cmp rfl rfl rfl rfl) ?_
               refine o_p rfl rfl ?_
               refine ow_nil ?_)
            | (refine cw_region (id := 5) ?_
               refine o_p rfl rfl ?_
               first | 
               refine ow_nil ?_)
            | (refine cw_region (id := 7) ?_
               first | refine o_r rfl (r_cmp rfl rfl rfl (cmp_t (by omega))) ?_ | refine o_r rfl (r_cmp rfl rfl rfl (cmp_f (by omega))) ?_ | refine o_r rfl (r_cmp rfl rfl rfl rfl) ?_
               refine ow_nil ?_)
            | (refine cw_region (id := 10) ?_
               first | refine o_r rfl (r_ar rfl rfl rfl (IntWalk.i64_in _ (by omega))) ?_ | refine o_r rfl (r_ar rfl rfl rfl rfl) ?_
               refine o_p rfl rfl ?_
               refine ow_nil ?_)
            | (refine cw_region (id := 11) ?_
               refine o_p rfl rfl ?_
               refine o_p rfl rfl ?_
               refine ow_nil ?_)
            | (refine cw_region (id := 4) ?_
               refine o_p rfl rfl ?_
               first | refine o_r rfl (r_ar rfl rfl rfl (IntWalk.i64_in _ (by omega))) ?_ | refine o_r rfl (r_ar rfl rfl rfl rfl) ?_
               refine o_p rfl rfl ?_
               refine ow_nil ?_))
          refine cw_loop (fun n : Nat => n ≤ tasks.toNat ∧ ∀ m : Nat, m < n → (m : Int) ∈ win zs j i) (fun n => [(43, .int .i64 (n : Int)), (42, .int .i64 tasks), (8, .int .i64 (i : Int)), (0, .slice (some ⟨b, off, none⟩) zs.length cap), (1, .int .i64 tasks), (2, .int .i64 (j : Int)), (7, .map (some b12))]) (fun _ => [(b12, .map (ents L') c')]) (fun _ => [w]) (fun n => tasks.toNat - n) 0 ⟨by omega, by omega⟩ (by repeat (first | exact trivial | refine ⟨rfl, ?_⟩)) rfl rfl ?_
          rintro n ⟨hn, hmem⟩
          by_cases hnt : (n : Int) < tasks
          · have hn0 := hall n
            by_cases hin : (n : Int) ∈ win zs j i
            · have hne : ¬ getI L' (n : Int) = 0 := fun e => (hn0.1 e) hin
              repeat (first
                | refine cw_seq ?_
                | refine cw_block ?_
                | refine cw_skip ?_
                | refine cw_label ?_
                | refine cw_exit ?_
                | refine cw_ret ?_
                | refine qw_then ?_
                | refine qw_block_normal ?_
                | refine qw_block_exit ?_
                | refine qw_block_other rfl ?_
                | refine qw_block_ret ?_
                | refine qw_then_ret ?_
                | refine qw_then_exit ?_
                | refine cw_true rfl ?_
                | refine cw_false rfl ?_
                | refine cw_scope ?_
                | refine qw_scope_normal ?_
                | refine qw_scope_ret ?_
                | refine qw_scope_exit ?_
                | (refine cw_region (id := 0) ?_
                   refine o_p rfl rfl ?_
                   refine ow_nil ?_)
                | (refine cw_region (id := 1) ?_
                   (refine o_a rfl al_makeMap (fun b12 fb12 => ?_); try simp only [fresh_iff, keysOf, List.map_cons, List.map_nil, List.forall_mem_cons, List.not_mem_nil, false_imp_iff, implies_true, and_true] at fb12)
                   refine o_p rfl rfl ?_
                   refine ow_nil ?_)
                | (refine cw_region (id := 2) ?_
                   refine o_p rfl rfl ?_
                   refine ow_nil ?_)
                | (refine cw_region (id := 3) ?_
                   refine o_p rfl rfl ?_
                   first | refine o_r rfl (r_cmp rfl rfl rfl (cmp_t (by omega))) ?_ | refine o_r rfl (r_cmp rfl rfl rfl (cmp_f (by omega))) ?_ | refine o_r rfl (r_cmp rfl rfl rfl rfl) ?_
                   refine o_p rfl rfl ?_
                   first | refine o_k rfl ?_ | refine o_p rfl rfl ?_
                   first | refine o_k rfl ?_ | refine o_p rfl rfl ?_
                   first | refine o_k rfl ?_ | refine o_r rfl (rd_len_sl rfl Try.underlying22 rfl) ?_
                   first | refine o_k rfl ?_ | refine o_p rfl rfl ?_
                   first | refine o_k rfl ?_ | refine o_r rfl (r_ar rfl rfl rfl (IntWalk.i64_in _ (by omega))) ?_ | refine o_r rfl (r_ar rfl rfl rfl rfl) ?_
                   first | refine o_k rfl ?_ | refine o_r rfl (r_cmp rfl rfl rfl (cmp_t (by omega))) ?_ | refine o_r rfl (r_cmp rfl rfl rfl (cmp_f (by omega))) ?_ | refine o_r rfl (r_cmp rfl rfl rfl rfl) ?_
                   refine o_p rfl rfl ?_
                   refine ow_nil ?_)
                | (refine cw_region (id := 5) ?_
                   refine o_p rfl rfl ?_
                   first | 
                   refine ow_nil ?_)
                | (refine cw_region (id := 7) ?_
                   first | refine o_r rfl (r_cmp rfl rfl rfl (cmp_t (by omega))) ?_ | refine o_r rfl (r_cmp rfl rfl rfl (cmp_f (by omega))) ?_ | refine o_r rfl (r_cmp rfl rfl rfl rfl) ?_
                   refine ow_nil ?_)
                | (refine cw_region (id := 8) ?_
                   first | refine o_r rfl (rd_indexAddr_sl Try.underlying22 sz3 rfl rfl (by omega) (by omega) (by rw [Nat.mul_one])) ?_ | refine o_r rfl (rd_indexAddr_sl Try.underlying22 sz3 rfl rfl (by omega) (by omega) rfl) ?_
                   refine o_r rfl (rd_load rfl (by repeat (first | exact List.Mem.head _ | apply List.Mem.tail)) one3 (by first | rfl | assumption)) ?_
                   refine o_p rfl rfl ?_
                   refine ow_nil ?_)
                | (refine cw_region (id := 10) ?_
                   first | refine o_r rfl (r_ar rfl rfl rfl (IntWalk.i64_in _ (by omega))) ?_ | refine o_r rfl (r_ar rfl rfl rfl rfl) ?_
                   refine o_p rfl rfl ?_
                   refine ow_nil ?_)
                | (refine cw_region (id := 11) ?_
                   refine o_p rfl rfl ?_
                   refine o_p rfl rfl ?_
                   refine ow_nil ?_)
                | (refine cw_region (id := 12) ?_
                   first | refine o_r rfl (r_cmp rfl rfl rfl (cmp_t (by omega))) ?_ | refine o_r rfl (r_cmp rfl rfl rfl (cmp_f (by omega))) ?_ | refine o_r rfl (r_cmp rfl rfl rfl rfl) ?_
                   refine ow_nil ?_)
                | (refine cw_region (id := 13) ?_
                   refine o_p rfl rfl ?_
                   refine o_p rfl rfl ?_
                   refine ow_nil ?_)
                | (refine cw_region (id := 14) ?_
                   refine o_p rfl rfl ?_
                   refine o_p rfl rfl ?_
                   refine o_r rfl (rd_lookup_i Try.underlying24 Try.underlying3 zk3 rfl rfl (by repeat (first | exact List.Mem.head _ | apply List.Mem.tail))) ?_
                   first | refine o_r rfl (r_cmp rfl rfl rfl (cmp_t (by omega))) ?_ | refine o_r rfl (r_cmp rfl rfl rfl (cmp_f (by omega))) ?_ | refine o_r rfl (r_cmp rfl rfl rfl rfl) ?_
                   refine ow_nil ?_)
                | (refine cw_region (id := 15) ?_
                   refine o_p rfl rfl ?_
                   refine ow_nil ?_)
                | (refine cw_region (id := 16) ?_
                   first | refine o_r rfl (r_ar rfl rfl rfl (IntWalk.i64_in _ (by omega))) ?_ | refine o_r rfl (r_ar rfl rfl rfl rfl) ?_
                   refine o_p rfl rfl ?_
                   refine ow_nil ?_)
                | (refine cw_region (id := 4) ?_
                   refine o_p rfl rfl ?_
                   first | refine o_r rfl (r_ar rfl rfl rfl (IntWalk.i64_in _ (by omega))) ?_ | refine o_r rfl (r_ar rfl rfl rfl rfl) ?_
                   refine o_p rfl rfl ?_
                   refine ow_nil ?_))
              refine qw_again (n + 1) ⟨by omega, fun m hm => ?_⟩ (by repeat (first | exact trivial | refine ⟨rfl, ?_⟩)) (by omega) (fun _ h => h)
              rcases Nat.lt_succ_iff_lt_or_eq.1 hm with h | rfl
              · exact hmem m h
              · exact hin
            · have he : getI L' (n : Int) = 0 := hn0.2 hin
              have : r = false := by
                cases r with
                | false => rfl
                | true => exact absurd ((hr.1 rfl).2 i (by simpa using hik) n hnt) (by simpa using hin)
              subst this
              repeat (first
                | refine cw_seq ?_
                | refine cw_block ?_
                | refine cw_skip ?_
                | refine cw_label ?_
                | refine cw_exit ?_
                | refine cw_ret ?_
                | refine qw_then ?_
                | refine qw_block_normal ?_
                | refine qw_block_exit ?_
                | refine qw_block_other rfl ?_
                | refine qw_block_ret ?_
                | refine qw_then_ret ?_
                | refine qw_then_exit ?_
                | refine cw_true rfl ?_
                | refine cw_false rfl ?_
                | refine cw_scope ?_
                | refine qw_scope_normal ?_
                | refine qw_scope_ret ?_
                | refine qw_scope_exit ?_
                | (refine cw_region (id := 0) ?_
                   refine o_p rfl rfl ?_
                   refine ow_nil ?_)
                | (refine cw_region (id := 1) ?_
                   (refine o_a rfl al_makeMap (fun b12 fb12 => ?_); try simp only [fresh_iff, keysOf, List.map_cons, List.map_nil, List.forall_mem_cons, List.not_mem_nil, false_imp_iff, implies_true, and_true] at fb12)
                   refine o_p rfl rfl ?_
                   refine ow_nil ?_)
                | (refine cw_region (id := 2) ?_
                   refine o_p rfl rfl ?_
                   refine ow_nil ?_)
                | (refine cw_region (id := 3) ?_
                   refine o_p rfl rfl ?_
                   first | refine o_r rfl (r_cmp rfl rfl rfl (cmp_t (by omega))) ?_ | refine o_r rfl (r_cmp rfl rfl rfl (cmp_f (by omega))) ?_ | refine o_r rfl (r_cmp rfl rfl rfl rfl) ?_
                   refine o_p rfl rfl ?_
                   first | refine o_k rfl ?_ | refine o_p rfl rfl ?_
                   first | refine o_k rfl ?_ | refine o_p rfl rfl ?_
                   first | refine o_k rfl ?_ | refine o_r rfl (rd_len_sl rfl Try.underlying22 rfl) ?_
                   first | refine o_k rfl ?_ | refine o_p rfl rfl ?_
                   first | refine o_k rfl ?_ | refine o_r rfl (r_ar rfl rfl rfl (IntWalk.i64_in _ (by omega))) ?_ | refine o_r rfl (r_ar rfl rfl rfl rfl) ?_
                   first | refine o_k rfl ?_ | refine o_r rfl (r_cmp rfl rfl rfl (cmp_t (by omega))) ?_ | refine o_r rfl (r_cmp rfl rfl rfl (cmp_f (by omega))) ?_ | refine o_r rfl (r_cmp rfl rfl rfl rfl) ?_
                   refine o_p rfl rfl ?_
                   refine ow_nil ?_)
                | (refine cw_region (id := 5) ?_
                   refine o_p rfl rfl ?_
                   first | 
                   refine ow_nil ?_)
                | (refine cw_region (id := 7) ?_
                   first | refine o_r rfl (r_cmp rfl rfl rfl (cmp_t (by omega))) ?_ | refine o_r rfl (r_cmp rfl rfl rfl (cmp_f (by omega))) ?_ | refine o_r rfl (r_cmp rfl rfl rfl rfl) ?_
                   refine ow_nil ?_)
                | (refine cw_region (id := 8) ?_
                   first | refine o_r rfl (rd_indexAddr_sl Try.underlying22 sz3 rfl rfl (by omega) (by omega) (by rw [Nat.mul_one])) ?_ | refine o_r rfl (rd_indexAddr_sl Try.underlying22 sz3 rfl rfl (by omega) (by omega) rfl) ?_
                   refine o_r rfl (rd_load rfl (by repeat (first | exact List.Mem.head _ | apply List.Mem.tail)) one3 (by first | rfl | assumption)) ?_
                   refine o_p rfl rfl ?_
                   refine ow_nil ?_)
                | (refine cw_region (id := 10) ?_
                   first | refine o_r rfl (r_ar rfl rfl rfl (IntWalk.i64_in _ (by omega))) ?_ | refine o_r rfl (r_ar rfl rfl rfl rfl) ?_
                   refine o_p rfl rfl ?_
                   refine ow_nil ?_)
                | (refine cw_region (id := 11) ?_
                   refine o_p rfl rfl ?_
                   refine o_p rfl rfl ?_
                   refine ow_nil ?_)
                | (refine cw_region (id := 12) ?_
                   first | refine o_r rfl (r_cmp rfl rfl rfl (cmp_t (by omega))) ?_ | refine o_r rfl (r_cmp rfl rfl rfl (cmp_f (by omega))) ?_ | refine o_r rfl (r_cmp rfl rfl rfl rfl) ?_
                   refine ow_nil ?_)
                | (refine cw_region (id := 13) ?_
                   refine o_p rfl rfl ?_
                   refine o_p rfl rfl ?_
                   refine ow_nil ?_)
                | (refine cw_region (id := 14) ?_
                   refine o_p rfl rfl ?_
                   refine o_p rfl rfl ?_
                   refine o_r rfl (rd_lookup_i Try.underlying24 Try.underlying3 zk3 rfl rfl (by repeat (first | exact List.Mem.head _ | apply List.Mem.tail))) ?_
                   first | refine o_r rfl (r_cmp rfl rfl rfl (cmp_t (by omega))) ?_ | refine o_r rfl (r_cmp rfl rfl rfl (cmp_f (by omega))) ?_ | refine o_r rfl (r_cmp rfl rfl rfl rfl) ?_
                   refine ow_nil ?_)
                | (refine cw_region (id := 15) ?_
                   refine o_p rfl rfl ?_
                   refine ow_nil ?_)
                | (refine cw_region (id := 16) ?_
                   first | refine o_r rfl (r_ar rfl rfl rfl (IntWalk.i64_in _ (by omega))) ?_ | refine o_r rfl (r_ar rfl rfl rfl rfl) ?_
                   refine o_p rfl rfl ?_
                   refine ow_nil ?_)
                | (refine cw_region (id := 4) ?_
                   refine o_p rfl rfl ?_
                   first | refine o_r rfl (r_ar rfl rfl rfl (IntWalk.i64_in _ (by omega))) ?_ | refine o_r rfl (r_ar rfl rfl rfl rfl) ?_
                   refine o_p rfl rfl ?_
                   refine ow_nil ?_))
              exact fin1 (.inl rfl) rfl (res_tmp rfl) (fun v hv => ⟨rfl, hv.below (by simp) (by simp only [keysOf, List.map_cons, List.map_nil, List.forall_mem_cons, List.not_mem_nil, false_imp_iff, implies_true, and_true] <;> omega)⟩)
          · repeat (first
              | refine cw_seq ?_
              | refine cw_block ?_
              | refine cw_skip ?_
              | refine cw_label ?_
              | refine cw_exit ?_
              | refine cw_ret ?_
              | refine qw_then ?_
              | refine qw_block_normal ?_
              | refine qw_block_exit ?_
              | refine qw_block_other rfl ?_
              | refine qw_block_ret ?_
              | refine qw_then_ret ?_
              | refine qw_then_exit ?_
              | refine cw_true rfl ?_
              | refine cw_false rfl ?_
              | refine cw_scope ?_
              | refine qw_scope_normal ?_
              | refine qw_scope_ret ?_
              | refine qw_scope_exit ?_
              | (refine cw_region (id := 0) ?_
                 refine o_p rfl rfl ?_
                 refine ow_nil ?_)
              | (refine cw_region (id := 1) ?_
                 (refine o_a rfl al_makeMap (fun b12 fb12 => ?_); try simp only [fresh_iff, keysOf, List.map_cons, List.map_nil, List.forall_mem_cons, List.not_mem_nil, false_imp_iff, implies_true, and_true] at fb12)
                 refine o_p rfl rfl ?_
                 refine ow_nil ?_)
              | (refine cw_region (id := 2) ?_
                 refine o_p rfl rfl ?_
                 refine ow_nil ?_)
              | (refine cw_region (id := 3) ?_
                 refine o_p rfl rfl ?_
                 first | refine o_r rfl (r_cmp rfl rfl rfl (cmp_t (by omega))) ?_ | refine o_r rfl (r_cmp rfl rfl rfl (cmp_f (by omega))) ?_ | refine o_r rfl (r_cmp rfl rfl rfl rfl) ?_
                 refine o_p rfl rfl ?_
                 first | refine o_k rfl ?_ | refine o_p rfl rfl ?_
                 first | refine o_k rfl ?_ | refine o_p rfl rfl ?_
                 first | refine o_k rfl ?_ | refine o_r rfl (rd_len_sl rfl Try.underlying22 rfl) ?_
                 first | refine o_k rfl ?_ | refine o_p rfl rfl ?_
                 first | refine o_k rfl ?_ | refine o_r rfl (r_ar rfl rfl rfl (IntWalk.i64_in _ (by omega))) ?_ | refine o_r rfl (r_ar rfl rfl rfl rfl) ?_
                 first | refine o_k rfl ?_ | refine o_r rfl (r_cmp rfl rfl rfl (cmp_t (by omega))) ?_ | refine o_r rfl (r_cmp rfl rfl rfl (cmp_f (by omega))) ?_ | refine o_r rfl (r_cmp rfl rfl rfl rfl) ?_
                 refine o_p rfl rfl ?_
                 refine ow_nil ?_)
              | (refine cw_region (id := 7) ?_
                 first | refine o_r rfl (r_cmp rfl rfl rfl (cmp_t (by omega))) ?_ | refine o_r rfl (r_cmp rfl rfl rfl (cmp_f (by omega))) ?_ | refine o_r rfl (r_cmp rfl rfl rfl rfl) ?_
                 refine ow_nil ?_)
              | (refine cw_region (id := 8) ?_
                 first | refine o_r rfl (rd_indexAddr_sl Try.underlying22 sz3 rfl rfl (by omega) (by omega) (by rw [Nat.mul_one])) ?_ | refine o_r rfl (rd_indexAddr_sl Try.underlying22 sz3 rfl rfl (by omega) (by omega) rfl) ?_
                 refine o_r rfl (rd_load rfl (by repeat (first | exact List.Mem.head _ | apply List.Mem.tail)) one3 (by first | rfl | assumption)) ?_
                 refine o_p rfl rfl ?_
                 refine ow_nil ?_)
              | (refine cw_region (id := 10) ?_
                 first | refine o_r rfl (r_ar rfl rfl rfl (IntWalk.i64_in _ (by omega))) ?_ | refine o_r rfl (r_ar rfl rfl rfl rfl) ?_
                 refine o_p rfl rfl ?_
                 refine ow_nil ?_)
              | (refine cw_region (id := 11) ?_
                 refine o_p rfl rfl ?_
                 refine o_p rfl rfl ?_
                 refine ow_nil ?_)
              | (refine cw_region (id := 12) ?_
                 first | refine o_r rfl (r_cmp rfl rfl rfl (cmp_t (by omega))) ?_ | refine o_r rfl (r_cmp rfl rfl rfl (cmp_f (by omega))) ?_ | refine o_r rfl (r_cmp rfl rfl rfl rfl) ?_
                 refine ow_nil ?_)
              | (refine cw_region (id := 13) ?_
                 refine o_p rfl rfl ?_
                 refine o_p rfl rfl ?_
                 refine ow_nil ?_)
              | (refine cw_region (id := 15) ?_
                 refine o_p rfl rfl ?_
                 refine ow_nil ?_)
              | (refine cw_region (id := 16) ?_
                 first | refine o_r rfl (r_ar rfl rfl rfl (IntWalk.i64_in _ (by omega))) ?_ | refine o_r rfl (r_ar rfl rfl rfl rfl) ?_
                 refine o_p rfl rfl ?_
                 refine ow_nil ?_)
              | (refine cw_region (id := 4) ?_
                 refine o_p rfl rfl ?_
                 first | refine o_r rfl (r_ar rfl rfl rfl (IntWalk.i64_in _ (by omega))) ?_ | refine o_r rfl (r_ar rfl rfl rfl rfl) ?_
                 refine o_p rfl rfl ?_
                 refine ow_nil ?_))
            refine qw_again (i + 1, L', c') ⟨by show i + 1 ≤ _; omega, fun q hq => ?_⟩ (by repeat (first | exact trivial | refine ⟨rfl, ?_⟩)) (by show zs.length + 1 - (i + 1) < zs.length + 1 - i; omega) (fun _ h => h)
            rcases Nat.lt_succ_iff_lt_or_eq.1 hq with h | rfl
            · exact hok q h
            · exact fun m hm => hmem m (by omega)
      · have : r = true := hr.2 ⟨by omega, fun j hj => hok j (by simp at hj; omega)⟩
        subst this
        repeat (first
          | refine cw_seq ?_
          | refine cw_block ?_
          | refine cw_skip ?_
          | refine cw_label ?_
          | refine cw_exit ?_
          | refine cw_ret ?_
          | refine qw_then ?_
          | refine qw_block_normal ?_
          | refine qw_block_exit ?_
          | refine qw_block_other rfl ?_
          | refine qw_block_ret ?_
          | refine qw_then_ret ?_
          | refine qw_then_exit ?_
          | refine cw_true rfl ?_
          | refine cw_false rfl ?_
          | refine cw_scope ?_
          | refine qw_scope_normal ?_
          | refine qw_scope_ret ?_
          | refine qw_scope_exit ?_
          | (refine cw_region (id := 0) ?_
             refine o_p rfl rfl ?_
             refine ow_nil ?_)
          | (refine cw_region (id := 1) ?_
             (refine o_a rfl al_makeMap (fun b12 fb12 => ?_); try simp only [fresh_iff, keysOf, List.map_cons, List.map_nil, List.forall_mem_cons, List.not_mem_nil, false_imp_iff, implies_true, and_true] at fb12)
             refine o_p rfl rfl ?_
             refine ow_nil ?_)
          | (refine cw_region (id := 2) ?_
             refine o_p rfl rfl ?_
             refine ow_nil ?_)
          | (refine cw_region (id := 3) ?_
             refine o_p rfl rfl ?_
             first | refine o_r rfl (r_cmp rfl rfl rfl (cmp_t (by omega))) ?_ | refine o_r rfl (r_cmp rfl rfl rfl (cmp_f (by omega))) ?_ | refine o_r rfl (r_cmp rfl rfl rfl rfl) ?_
             refine o_p rfl rfl ?_
             first | refine o_k rfl ?_ | refine o_p rfl rfl ?_
             first | refine o_k rfl ?_ | refine o_p rfl rfl ?_
             first | refine o_k rfl ?_ | refine o_r rfl (rd_len_sl rfl Try.underlying22 rfl) ?_
             first | refine o_k rfl ?_ | refine o_p rfl rfl ?_
             first | refine o_k rfl ?_ | refine o_r rfl (r_ar rfl rfl rfl (IntWalk.i64_in _ (by omega))) ?_ | refine o_r rfl (r_ar rfl rfl rfl rfl) ?_
             first | refine o_k rfl ?_ | refine o_r rfl (r_cmp rfl rfl rfl (cmp_t (by omega))) ?_ | refine o_r rfl (r_cmp rfl rfl rfl (cmp_f (by omega))) ?_ | refine o_r rfl (r_cmp rfl rfl rfl rfl) ?_
             refine o_p rfl rfl ?_
             refine ow_nil ?_)
          | (refine cw_region (id := 7) ?_
             first | refine o_r rfl (r_cmp rfl rfl rfl (cmp_t (by omega))) ?_ | refine o_r rfl (r_cmp rfl rfl rfl (cmp_f (by omega))) ?_ | refine o_r rfl (r_cmp rfl rfl rfl rfl) ?_
             refine ow_nil ?_)
          | (refine cw_region (id := 8) ?_
             first | refine o_r rfl (rd_indexAddr_sl Try.underlying22 sz3 rfl rfl (by omega) (by omega) (by rw [Nat.mul_one])) ?_ | refine o_r rfl (rd_indexAddr_sl Try.underlying22 sz3 rfl rfl (by omega) (by omega) rfl) ?_
             refine o_r rfl (rd_load rfl (by repeat (first | exact List.Mem.head _ | apply List.Mem.tail)) one3 (by first | rfl | assumption)) ?_
             refine o_p rfl rfl ?_
             refine ow_nil ?_)
          | (refine cw_region (id := 10) ?_
             first | refine o_r rfl (r_ar rfl rfl rfl (IntWalk.i64_in _ (by omega))) ?_ | refine o_r rfl (r_ar rfl rfl rfl rfl) ?_
             refine o_p rfl rfl ?_
             refine ow_nil ?_)
          | (refine cw_region (id := 11) ?_
             refine o_p rfl rfl ?_
             refine o_p rfl rfl ?_
             refine ow_nil ?_)
          | (refine cw_region (id := 12) ?_
             first | refine o_r rfl (r_cmp rfl rfl rfl (cmp_t (by omega))) ?_ | refine o_r rfl (r_cmp rfl rfl rfl (cmp_f (by omega))) ?_ | refine o_r rfl (r_cmp rfl rfl rfl rfl) ?_
             refine ow_nil ?_)
          | (refine cw_region (id := 13) ?_
             refine o_p rfl rfl ?_
             refine o_p rfl rfl ?_
             refine ow_nil ?_)
          | (refine cw_region (id := 15) ?_
             refine o_p rfl rfl ?_
             refine ow_nil ?_)
          | (refine cw_region (id := 16) ?_
             first | refine o_r rfl (r_ar rfl rfl rfl (IntWalk.i64_in _ (by omega))) ?_ | refine o_r rfl (r_ar rfl rfl rfl rfl) ?_
             refine o_p rfl rfl ?_
             refine ow_nil ?_)
          | (refine cw_region (id := 4) ?_
             refine o_p rfl rfl ?_
             first | refine o_r rfl (r_ar rfl rfl rfl (IntWalk.i64_in _ (by omega))) ?_ | refine o_r rfl (r_ar rfl rfl rfl rfl) ?_
             refine o_p rfl rfl ?_
             refine ow_nil ?_)
          | (refine cw_region (id := 17) ?_
             refine o_p rfl rfl ?_
             first | refine o_r rfl (r_cmp rfl rfl rfl (cmp_t (by omega))) ?_ | refine o_r rfl (r_cmp rfl rfl rfl (cmp_f (by omega))) ?_ | refine o_r rfl (r_cmp rfl rfl rfl rfl) ?_
             refine o_p rfl rfl ?_
             refine ow_nil ?_))
        exact fin1 (.inl rfl) rfl (res_tmp rfl) (fun v hv => ⟨rfl, hv.below (by simp) (by simp only [keysOf, List.map_cons, List.map_nil, List.forall_mem_cons, List.not_mem_nil, false_imp_iff, implies_true, and_true] <;> omega)⟩)
theorem runfair_c (w : World) (ad : Option Addr) (len cap : Nat) (zs : List Int) (tasks k : Int) (hs : len ≤ 40 → IsSl w (.slice ad len cap) zs) (hl : len = zs.length) (hm : len ≤ 9223372036854775807) (ht0 : -9223372036854775808 ≤ tasks) (ht : tasks ≤ 9223372036854775807) (hk : k ≤ 9223372036854775807) :
    Calls Try.prog 3 #[.slice ad len cap, .int .i64 tasks, .int .i64 k] w fun e w' => e = .returned (.bool true) ∧ Below w.heap.size w w' := by
  by_cases h : len ≤ 40 ∧ -20 ≤ tasks ∧ tasks ≤ 20
  · obtain ⟨r, hr⟩ : ∃ r : Bool, r = true ↔ FairP zs tasks k := by
      rcases Classical.em (FairP zs tasks k) with h | h
      · exact ⟨true, by simp [h]⟩
      · exact ⟨false, by simp [h]⟩
    have hss := hs h.1
    have hsl : ∀ s, Below w.heap.size w s → IsSl s (.slice ad len cap) zs := fun s hb => by
      rcases hss with ⟨ad', cap', h1, h2⟩ | ⟨b, off, cap', h1, h2, h3, h4⟩
      · exact .inl ⟨ad', cap', h1, h2⟩
      · exact .inr ⟨b, off, cap', h1, h2, by have := hb.size; omega, fun i n hn => by rw [hb.cell h3]; exact h4 i n hn⟩
    have hrr : (r == r) = true := by simp
    refine enter Try.func3 rfl (Nat.le_of_ble_eq_true rfl) (kn0 w) (vs := [_, _, _]) (fr0 := [(0, _), (1, _), (2, _)]) rfl (n := 27) rfl ?_
    repeat (first
      | refine cw_seq ?_
      | refine cw_block ?_
      | refine cw_skip ?_
      | refine cw_label ?_
      | refine cw_exit ?_
      | refine cw_ret ?_
      | refine qw_then ?_
      | refine qw_block_normal ?_
      | refine qw_block_exit ?_
      | refine qw_block_other rfl ?_
      | refine qw_block_ret ?_
      | refine qw_then_ret ?_
      | refine qw_then_exit ?_
      | refine cw_true rfl ?_
      | refine cw_false rfl ?_
      | refine cw_scope ?_
      | refine qw_scope_normal ?_
      | refine qw_scope_ret ?_
      | refine qw_scope_exit ?_
      | (refine cw_region (id := 0) ?_
         refine o_p rfl rfl ?_
         refine ow_nil ?_)
      | (refine cw_region (id := 1) ?_
         refine o_p rfl rfl ?_
         refine o_r rfl (rd_len_sl rfl Try.underlying22 rfl) ?_
         first | refine o_r rfl (r_cmp rfl rfl rfl (cmp_t (by omega))) ?_ | refine o_r rfl (r_cmp rfl rfl rfl (cmp_f (by omega))) ?_ | refine o_r rfl (r_cmp rfl rfl rfl rfl) ?_
         refine o_p rfl rfl ?_
         first | refine o_k rfl ?_ | refine o_p rfl rfl ?_
         first | refine o_k rfl ?_ | refine o_r rfl (r_cmp rfl rfl rfl (cmp_t (by omega))) ?_ | refine o_r rfl (r_cmp rfl rfl rfl (cmp_f (by omega))) ?_ | refine o_r rfl (r_cmp rfl rfl rfl rfl) ?_
         refine o_p rfl rfl ?_
         refine o_p rfl rfl ?_
         first | refine o_k rfl ?_ | refine o_p rfl rfl ?_
         first | refine o_k rfl ?_ | refine o_r rfl (r_cmp rfl rfl rfl (cmp_t (by omega))) ?_ | refine o_r rfl (r_cmp rfl rfl rfl (cmp_f (by omega))) ?_ | refine o_r rfl (r_cmp rfl rfl rfl rfl) ?_
         refine o_p rfl rfl ?_
         refine ow_nil ?_)
      | (refine cw_region (id := 2) ?_
         refine o_p rfl rfl ?_
         refine ow_nil ?_)
      | (refine cw_region (id := 3) ?_
         refine o_p rfl rfl ?_
         refine o_p rfl rfl ?_
         refine o_p rfl rfl ?_
         (refine o_c rfl rfl rfl en4 rfl (fun s hs => (fair_c _ _ zs _ _ r (hsl _ (hs.below (by simp) (by simp only [keysOf, List.map_cons, List.map_nil, List.forall_mem_cons, List.not_mem_nil, false_imp_iff, implies_true, and_true] <;> omega))) (by omega) (by omega) hk hr).mono ?_); rintro e w' ⟨rfl, hb⟩; refine ⟨_, _, _, rfl, hs.grow hb, ?_⟩; clear hb hs w' s)
         refine o_p rfl rfl ?_
         refine o_p rfl rfl ?_
         refine o_p rfl rfl ?_
         (refine o_c rfl rfl rfl en5 rfl (fun s hs => (rfair_c _ _ zs _ _ r (hsl _ (hs.below (by simp) (by simp only [keysOf, List.map_cons, List.map_nil, List.forall_mem_cons, List.not_mem_nil, false_imp_iff, implies_true, and_true] <;> omega))) (by omega) (by omega) hk hr).mono ?_); rintro e w' ⟨rfl, hb⟩; refine ⟨_, _, _, rfl, hs.grow hb, ?_⟩; clear hb hs w' s)
         refine o_r rfl (rd_eql_bool Try.underlying4 rfl rfl hrr) ?_
         refine o_p rfl rfl ?_
         refine ow_nil ?_))
    exact fin1 (.inl rfl) rfl (res_tmp rfl) (fun v hv => ⟨rfl, hv.below (by simp) (by simp only [keysOf, List.map_cons, List.map_nil, List.forall_mem_cons, List.not_mem_nil, false_imp_iff, implies_true, and_true] <;> omega)⟩)
  · have h' : 40 < len ∨ (len ≤ 40 ∧ 20 < tasks) ∨ (len ≤ 40 ∧ tasks < -20) := by omega
    clear h
    rcases h' with h | h | h
    all_goals
      refine enter Try.func3 rfl (Nat.le_of_ble_eq_true rfl) (kn0 w) (vs := [_, _, _]) (fr0 := [(0, _), (1, _), (2, _)]) rfl (n := 27) rfl ?_
      repeat (first
        | refine cw_seq ?_
        | refine cw_block ?_
        | refine cw_skip ?_
        | refine cw_label ?_
        | refine cw_exit ?_
        | refine cw_ret ?_
        | refine qw_then ?_
        | refine qw_block_normal ?_
        | refine qw_block_exit ?_
        | refine qw_block_other rfl ?_
        | refine qw_block_ret ?_
        | refine qw_then_ret ?_
        | refine qw_then_exit ?_
        | refine cw_true rfl ?_
        | refine cw_false rfl ?_
        | refine cw_scope ?_
        | refine qw_scope_normal ?_
        | refine qw_scope_ret ?_
        | refine qw_scope_exit ?_
        | (refine cw_region (id := 0) ?_
           refine o_p rfl rfl ?_
           refine ow_nil ?_)
        | (refine cw_region (id := 1) ?_
           refine o_p rfl rfl ?_
           refine o_r rfl (rd_len_sl rfl Try.underlying22 rfl) ?_
           first | refine o_r rfl (r_cmp rfl rfl rfl (cmp_t (by omega))) ?_ | refine o_r rfl (r_cmp rfl rfl rfl (cmp_f (by omega))) ?_ | refine o_r rfl (r_cmp rfl rfl rfl rfl) ?_
           refine o_p rfl rfl ?_
           first | refine o_k rfl ?_ | refine o_p rfl rfl ?_
           first | refine o_k rfl ?_ | refine o_r rfl (r_cmp rfl rfl rfl (cmp_t (by omega))) ?_ | refine o_r rfl (r_cmp rfl rfl rfl (cmp_f (by omega))) ?_ | refine o_r rfl (r_cmp rfl rfl rfl rfl) ?_
           refine o_p rfl rfl ?_
           refine o_p rfl rfl ?_
           first | refine o_k rfl ?_ | refine o_p rfl rfl ?_
           first | refine o_k rfl ?_ | refine o_r rfl (r_cmp rfl rfl rfl (cmp_t (by omega))) ?_ | refine o_r rfl (r_cmp rfl rfl rfl (cmp_f (by omega))) ?_ | refine o_r rfl (r_cmp rfl rfl rfl rfl) ?_
           refine o_p rfl rfl ?_
           refine ow_nil ?_)
        | (refine cw_region (id := 2) ?_
           refine o_p rfl rfl ?_
           refine ow_nil ?_))
      exact fin1 (.inl rfl) rfl (res_tmp rfl) (fun v hv => ⟨rfl, hv.below (by simp) (by simp only [keysOf, List.map_cons, List.map_nil, List.forall_mem_cons, List.not_mem_nil, false_imp_iff, implies_true, and_true] <;> omega)⟩)
end Go.Proofs.Ytjnhoamedobdaaa

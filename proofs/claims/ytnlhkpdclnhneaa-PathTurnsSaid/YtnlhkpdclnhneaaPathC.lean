import Derived.Test.YtnlhkpdclnhneaaPathB
namespace Go.Proofs.Ytnlhkpdclnhneaa
open Go.RowKit
attribute [local irreducible] Go.Calls
theorem zero3v : (Try.prog.info? 3).bind (·.zero) = some (.int .i64 0) := by kernel_rfl
theorem zero4v : (Try.prog.info? 4).bind (·.zero) = some (.bool false) := by kernel_rfl
@[irreducible] def sharedD (a b : Dig) : Nat := match dTo a b 32 with
  | [] => 256
  | x :: _ => 8 * x.1 + (8 - lenM x.2)
@[irreducible] def aheadD (a b : Dig) : Bool := match dTo a b 32 with
  | [] => false
  | x :: _ => decide (kn a x.1 < kn b x.1)
theorem apart_call {a b : Dig} {N : Nat} {ds : List Deferred} {ops : Array Oper} {l : List Oper} {Q : Exit → Act → World → Prop} {t : Nat} {fr : Fr} {H : Hp} {S : List World} {w : World} (hs : Kn w H S)
    (h : ∀ s Ba Bb, s.heap[Ba]? = some (.cells (dv a) 23 (0, 0)) → s.heap[Bb]? = some (.cells (dv b) 23 (0, 0)) → Ba ∉ keysOf H → Bb ∉ keysOf H →
      OW Try.prog none N ds ops l Q ((t, .func (.func 20) #[] #[.pointer (some ⟨Ba, 0, none⟩), .pointer (some ⟨Bb, 0, none⟩)]) :: fr) H (s :: S)) :
    Calls Try.prog 17 #[.agg (dv a), .agg (dv b)] w fun e w' => ∃ v H' S', e = .returned v ∧ Kn w' H' S' ∧ OW Try.prog none N ds ops l Q ((t, v) :: fr) H' S' := by
  refine (apart_c a b w).mono ?_
  rintro e w' ⟨Ba, Bb, rfl, h1, h2, h3, h4, hb⟩
  have hf : ∀ q, w.heap.size ≤ q → q ∉ keysOf H := fun q hq hm => by have := hs.key_lt hm; omega
  exact ⟨_, H, w' :: S, rfl, (hs.grow hb).snap, h w' Ba Bb h3 h4 (hf _ h1) (hf _ h2)⟩
theorem apart_it' (a b : Dig) {Ba Bb : Nat} {s w : World} {H : Hp} {S : List World} (h3 : s.heap[Ba]? = some (.cells (dv a) 23 (0, 0))) (h4 : s.heap[Bb]? = some (.cells (dv b) 23 (0, 0))) (h1 : Ba ∉ keysOf H) (h2 : Bb ∉ keysOf H) (hw : Kn w H (s :: S)) :
    IterC Try.prog 20 #[.pointer (some ⟨Ba, 0, none⟩), .pointer (some ⟨Bb, 0, none⟩)] encD (fun k => k = Ba ∨ k = Bb) (dTo a b 32) w :=
  apart_it a b Ba Bb _ _ _ _ w (by rw [hw.old (by simp) (heap_lt h3) h1]; exact h3) (by rw [hw.old (by simp) (heap_lt h4) h2]; exact h4)
theorem apart_rd {Ba Bb : Nat} {s w : World} {H : Hp} {S : List World} {o1 o2 : Obj} (h3 : s.heap[Ba]? = some o1) (h4 : s.heap[Bb]? = some o2) (h1 : Ba ∉ keysOf H) (h2 : Bb ∉ keysOf H) (hw : Kn w H (s :: S)) :
    ∀ k, (k = Ba ∨ k = Bb) → k < w.heap.size ∧ k ∉ keysOf H := by
  have hz : s.heap.size ≤ w.heap.size := (hw.keep s (by simp)).size
  have := heap_lt h3
  have := heap_lt h4
  rintro k (rfl | rfl)
  · exact ⟨by omega, h1⟩
  · exact ⟨by omega, h2⟩
theorem list_head {α : Type} {l : List α} {x : α} (h : l[0]? = some x) : ∃ r, l = x :: r := by
  cases l with
  | nil => simp at h
  | cons y r => simp at h; subst h; exact ⟨r, rfl⟩
theorem cmp_bool (m n : Nat) : Value.bool (decide (cmpP .lss (m : Int) (n : Int))) = .bool (decide (m < n)) := by
  congr 1
  exact decide_eq_decide.2 (by show (m : Int) < n ↔ _; omega)
theorem ahead_c (a b : Dig) (w : World) : Calls Try.prog 8 #[.agg (dv a), .agg (dv b)] w fun e w' => e = .returned (.bool (aheadD a b)) ∧ Below w.heap.size w w' := by
  refine enterM Try.func8 rfl (Nat.le_of_ble_eq_true rfl) (kn0 w) (vs := [_, _]) (fr0 := [(0, _), (1, _)]) rfl (n := 18) rfl ?_
  repeat (first
    | refine cw_seq ?_
    | refine cw_block ?_
    | refine cw_skip ?_
    | refine cw_label ?_
    | refine cw_exit ?_
    | refine cw_ret ?_
    | refine qw_then ?_
    | refine qw_block_normal ?_
    | refine qw_block_exit ?_
    | refine qw_block_other rfl ?_
    | refine qw_block_ret ?_
    | refine qw_then_ret ?_
    | refine qw_then_exit ?_
    | refine cw_true rfl ?_
    | refine cw_false rfl ?_
    | refine cw_scope ?_
    | refine qw_scope_normal ?_
    | refine qw_scope_ret ?_
    | refine qw_scope_exit ?_
    | (refine cw_region (id := 0) ?_
       first | (refine o_a rfl (al_box_agg rfl) (fun b2 fb2 => ?_); try simp only [fresh_iff, keysOf, List.map_cons, List.map_nil, List.forall_mem_cons, List.not_mem_nil, false_imp_iff, implies_true, and_true] at fb2) | (refine o_a rfl (al_box rfl) (fun b2 fb2 => ?_); try simp only [fresh_iff, keysOf, List.map_cons, List.map_nil, List.forall_mem_cons, List.not_mem_nil, false_imp_iff, implies_true, and_true] at fb2)
       first | (refine o_a rfl (al_box_agg rfl) (fun b3 fb3 => ?_); try simp only [fresh_iff, keysOf, List.map_cons, List.map_nil, List.forall_mem_cons, List.not_mem_nil, false_imp_iff, implies_true, and_true] at fb3) | (refine o_a rfl (al_box rfl) (fun b3 fb3 => ?_); try simp only [fresh_iff, keysOf, List.map_cons, List.map_nil, List.forall_mem_cons, List.not_mem_nil, false_imp_iff, implies_true, and_true] at fb3)
       first | (refine o_a rfl (al_alloc_agg zero4) (fun b4 fb4 => ?_); try simp only [fresh_iff, keysOf, List.map_cons, List.map_nil, List.forall_mem_cons, List.not_mem_nil, false_imp_iff, implies_true, and_true] at fb4) | (refine o_a rfl (al_alloc zero4) (fun b4 fb4 => ?_); try simp only [fresh_iff, keysOf, List.map_cons, List.map_nil, List.forall_mem_cons, List.not_mem_nil, false_imp_iff, implies_true, and_true] at fb4)
       refine ow_nil ?_)
    | (refine cw_region (id := 2) ?_
       refine o_p rfl rfl ?_
       refine ow_nil ?_)
    | (refine cw_flow (id := 3) 7 mixed (by kernel_rfl) ?_
       refine f_p rfl rfl ?_
       first | refine f_r rfl (rd_indexAddr_arr Try.underlying23 sz5 rfl rfl (by omega) (by omega) (by rw [Nat.zero_add, Nat.mul_one])) ?_ | refine f_r rfl (rd_indexAddr_arr Try.underlying23 sz5 rfl rfl (by omega) (by omega) (by rw [Nat.zero_add])) ?_ | refine f_r rfl (rd_indexAddr_arr Try.underlying23 sz5 rfl rfl (by omega) (by omega) rfl) ?_
       refine f_r rfl (rd_load rfl (by repeat (first | exact List.Mem.head _ | apply List.Mem.tail)) one5 (by first | rfl | assumption)) ?_
       refine f_p rfl rfl ?_
       first | refine f_r rfl (rd_indexAddr_arr Try.underlying23 sz5 rfl rfl (by omega) (by omega) (by rw [Nat.zero_add, Nat.mul_one])) ?_ | refine f_r rfl (rd_indexAddr_arr Try.underlying23 sz5 rfl rfl (by omega) (by omega) (by rw [Nat.zero_add])) ?_ | refine f_r rfl (rd_indexAddr_arr Try.underlying23 sz5 rfl rfl (by omega) (by omega) rfl) ?_
       refine f_r rfl (rd_load rfl (by repeat (first | exact List.Mem.head _ | apply List.Mem.tail)) one5 (by first | rfl | assumption)) ?_
       first | refine f_r rfl (r_cmp rfl rfl rfl (cmp_t (by omega))) ?_ | refine f_r rfl (r_cmp rfl rfl rfl (cmp_f (by omega))) ?_ | refine f_r rfl (r_cmp rfl rfl rfl rfl) ?_
       refine f_end rfl ?_
       repeat (refine end_val ?_)
       refine end_nil ?_
       refine o_w rfl (wr_store rfl rfl sz4 rfl (by repeat (first | exact Upd.here | apply Upd.there)) (by simp [Value.cells])) ?_
       refine ow_nil ?_)
    | (refine cw_region (id := 4) ?_
       refine o_w rfl (wr_store rfl rfl sz4 rfl (by repeat (first | exact Upd.here | apply Upd.there)) (by simp [Value.cells])) ?_
       refine ow_nil ?_))
  refine cw_region (id := 1) ?_
  first | refine o_r rfl (rd_load_all rfl (by repeat (first | exact List.Mem.head _ | apply List.Mem.tail)) agg23 (by simp)) ?_ | refine o_r rfl (rd_load_agg rfl (by repeat (first | exact List.Mem.head _ | apply List.Mem.tail)) agg23 (by simp [Value.cells]) (by first | rfl | simp [Value.cells])) ?_
  first | refine o_r rfl (rd_load_all rfl (by repeat (first | exact List.Mem.head _ | apply List.Mem.tail)) agg23 (by simp)) ?_ | refine o_r rfl (rd_load_agg rfl (by repeat (first | exact List.Mem.head _ | apply List.Mem.tail)) agg23 (by simp [Value.cells]) (by first | rfl | simp [Value.cells])) ?_
  refine o_c rfl rfl rfl en17 rfl (fun s hs => apart_call hs ?_)
  intro s Ba Bb h3 h4 h1 h2
  refine ow_nil ?_
  repeat (first
    | refine cw_seq ?_
    | refine cw_block ?_
    | refine cw_skip ?_
    | refine cw_label ?_
    | refine cw_exit ?_
    | refine cw_ret ?_
    | refine qw_then ?_
    | refine qw_block_normal ?_
    | refine qw_block_exit ?_
    | refine qw_block_other rfl ?_
    | refine qw_block_ret ?_
    | refine qw_then_ret ?_
    | refine qw_then_exit ?_
    | refine cw_true rfl ?_
    | refine cw_false rfl ?_
    | refine cw_scope ?_
    | refine qw_scope_normal ?_
    | refine qw_scope_ret ?_
    | refine qw_scope_exit ?_)
  refine cw_range encD (fun k => k = Ba ∨ k = Bb) (dTo a b 32) (fun c : Value => [(b4, .cells #[c] 4 (0, 0)), (b3, .cells (dv b) 23 (0, 0)), (b2, .cells (dv a) 23 (0, 0))])
    (fun k c => k = 0) (fun code k c => code = .ret ∧ ∃ x l, dTo a b 32 = x :: l ∧ c = .bool (decide (kn a x.1 < kn b x.1))) (.bool false)
    (fun k x (_ : Unit) => [(5, .int .i64 (x.1 : Int)), (2, .pointer (some ⟨b2, 0, none⟩)), (3, .pointer (some ⟨b3, 0, none⟩)), (4, .pointer (some ⟨b4, 0, none⟩))]) (fun _ _ _ => []) (fun _ _ _ => True)
    [(2, .pointer (some ⟨b2, 0, none⟩)), (3, .pointer (some ⟨b3, 0, none⟩)), (4, .pointer (some ⟨b4, 0, none⟩))]
    rfl en20 (by repeat (first | exact trivial | refine ⟨rfl, ?_⟩)) (fun v hv => apart_it' a b h3 h4 h1 h2 hv) (fun v hv => apart_rd h3 h4 h1 h2 hv) (fun _ => rfl) (by kernel_rfl) rfl rfl (fun _ => rfl) ?_ ?_ ?_ ?_
  · rintro l D s1 ol k x c - hx rfl hD hq hl hs1
    repeat (first
      | refine cw_seq ?_
      | refine cw_block ?_
      | refine cw_skip ?_
      | refine cw_label ?_
      | refine cw_exit ?_
      | refine cw_ret ?_
      | refine qw_then ?_
      | refine qw_block_normal ?_
      | refine qw_block_exit ?_
      | refine qw_block_other rfl ?_
      | refine qw_block_ret ?_
      | refine qw_then_ret ?_
      | refine qw_then_exit ?_
      | refine cw_true rfl ?_
      | refine cw_false rfl ?_
      | refine cw_scope ?_
      | refine qw_scope_normal ?_
      | refine qw_scope_ret ?_
      | refine qw_scope_exit ?_
      | (refine cw_region (id := 0) ?_
         first | (refine o_a rfl (al_box_agg rfl) (fun b2 fb2 => ?_); try simp only [fresh_iff, keysOf, List.map_cons, List.map_nil, List.forall_mem_cons, List.not_mem_nil, false_imp_iff, implies_true, and_true] at fb2) | (refine o_a rfl (al_box rfl) (fun b2 fb2 => ?_); try simp only [fresh_iff, keysOf, List.map_cons, List.map_nil, List.forall_mem_cons, List.not_mem_nil, false_imp_iff, implies_true, and_true] at fb2)
         first | (refine o_a rfl (al_box_agg rfl) (fun b3 fb3 => ?_); try simp only [fresh_iff, keysOf, List.map_cons, List.map_nil, List.forall_mem_cons, List.not_mem_nil, false_imp_iff, implies_true, and_true] at fb3) | (refine o_a rfl (al_box rfl) (fun b3 fb3 => ?_); try simp only [fresh_iff, keysOf, List.map_cons, List.map_nil, List.forall_mem_cons, List.not_mem_nil, false_imp_iff, implies_true, and_true] at fb3)
         first | (refine o_a rfl (al_alloc_agg zero4) (fun b4 fb4 => ?_); try simp only [fresh_iff, keysOf, List.map_cons, List.map_nil, List.forall_mem_cons, List.not_mem_nil, false_imp_iff, implies_true, and_true] at fb4) | (refine o_a rfl (al_alloc zero4) (fun b4 fb4 => ?_); try simp only [fresh_iff, keysOf, List.map_cons, List.map_nil, List.forall_mem_cons, List.not_mem_nil, false_imp_iff, implies_true, and_true] at fb4)
         refine ow_nil ?_)
      | (refine cw_region (id := 2) ?_
         refine o_p rfl rfl ?_
         refine ow_nil ?_)
      | (refine cw_flow (id := 3) 7 mixed (by kernel_rfl) ?_
         refine f_p rfl rfl ?_
         first | refine f_r rfl (rd_indexAddr_arr Try.underlying23 sz5 rfl rfl (by omega) (by omega) (by rw [Nat.zero_add, Nat.mul_one])) ?_ | refine f_r rfl (rd_indexAddr_arr Try.underlying23 sz5 rfl rfl (by omega) (by omega) (by rw [Nat.zero_add])) ?_ | refine f_r rfl (rd_indexAddr_arr Try.underlying23 sz5 rfl rfl (by omega) (by omega) rfl) ?_
         refine f_r rfl (rd_load rfl (by repeat (first | exact List.Mem.head _ | apply List.Mem.tail)) one5 (by first | rfl | assumption)) ?_
         refine f_p rfl rfl ?_
         first | refine f_r rfl (rd_indexAddr_arr Try.underlying23 sz5 rfl rfl (by omega) (by omega) (by rw [Nat.zero_add, Nat.mul_one])) ?_ | refine f_r rfl (rd_indexAddr_arr Try.underlying23 sz5 rfl rfl (by omega) (by omega) (by rw [Nat.zero_add])) ?_ | refine f_r rfl (rd_indexAddr_arr Try.underlying23 sz5 rfl rfl (by omega) (by omega) rfl) ?_
         refine f_r rfl (rd_load rfl (by repeat (first | exact List.Mem.head _ | apply List.Mem.tail)) one5 (by first | rfl | assumption)) ?_
         first | refine f_r rfl (r_cmp rfl rfl rfl (cmp_t (by omega))) ?_ | refine f_r rfl (r_cmp rfl rfl rfl (cmp_f (by omega))) ?_ | refine f_r rfl (r_cmp rfl rfl rfl rfl) ?_
         refine f_end rfl ?_
         repeat (refine end_val ?_)
         refine end_nil ?_
         refine o_w rfl (wr_store rfl rfl sz4 rfl (by repeat (first | exact Upd.here | apply Upd.there)) (by simp [Value.cells])) ?_
         refine ow_nil ?_)
      | (refine cw_region (id := 4) ?_
         refine o_w rfl (wr_store rfl rfl sz4 rfl (by repeat (first | exact Upd.here | apply Upd.there)) (by simp [Value.cells])) ?_
         refine ow_nil ?_))
    exact qw_asg () ⟨trivial, by simp [keysOf]⟩ (by repeat (first | exact trivial | refine ⟨rfl, ?_⟩)) (fun _ h => h)
  · rintro l D s1 ol k x c - - hx rfl hD hq hl hs1 - -
    obtain ⟨hx1, hx2, hx3⟩ := dTo_mem (List.mem_of_getElem? hx)
    have hga := dv_get a hx1
    have hgb := dv_get b hx1
    rw [List.nil_append]
    repeat (first
      | refine cw_seq ?_
      | refine cw_block ?_
      | refine cw_skip ?_
      | refine cw_label ?_
      | refine cw_exit ?_
      | refine cw_ret ?_
      | refine qw_then ?_
      | refine qw_block_normal ?_
      | refine qw_block_exit ?_
      | refine qw_block_other rfl ?_
      | refine qw_block_ret ?_
      | refine qw_then_ret ?_
      | refine qw_then_exit ?_
      | refine cw_true rfl ?_
      | refine cw_false rfl ?_
      | refine cw_scope ?_
      | refine qw_scope_normal ?_
      | refine qw_scope_ret ?_
      | refine qw_scope_exit ?_)
    refine cw_flow (id := 3) 7 mixed (by kernel_rfl) ?_
    refine f_p rfl rfl ?_
    first | refine f_r rfl (rd_indexAddr_arr Try.underlying23 sz5 rfl rfl (by omega) (by omega) (by rw [Nat.zero_add, Nat.mul_one])) ?_ | refine f_r rfl (rd_indexAddr_arr Try.underlying23 sz5 rfl rfl (by omega) (by omega) (by rw [Nat.zero_add])) ?_ | refine f_r rfl (rd_indexAddr_arr Try.underlying23 sz5 rfl rfl (by omega) (by omega) rfl) ?_
    refine f_r rfl (rd_load rfl (by repeat (first | exact List.Mem.head _ | apply List.Mem.tail)) one5 hga) ?_
    refine f_p rfl rfl ?_
    first | refine f_r rfl (rd_indexAddr_arr Try.underlying23 sz5 rfl rfl (by omega) (by omega) (by rw [Nat.zero_add, Nat.mul_one])) ?_ | refine f_r rfl (rd_indexAddr_arr Try.underlying23 sz5 rfl rfl (by omega) (by omega) (by rw [Nat.zero_add])) ?_ | refine f_r rfl (rd_indexAddr_arr Try.underlying23 sz5 rfl rfl (by omega) (by omega) rfl) ?_
    refine f_r rfl (rd_load rfl (by repeat (first | exact List.Mem.head _ | apply List.Mem.tail)) one5 hgb) ?_
    first | refine f_r rfl (r_cmp rfl rfl rfl (cmp_t (by omega))) ?_ | refine f_r rfl (r_cmp rfl rfl rfl (cmp_f (by omega))) ?_ | refine f_r rfl (r_cmp rfl rfl rfl rfl) ?_
    refine f_end rfl ?_
    repeat (refine end_val ?_)
    refine end_nil ?_
    refine o_w rfl (wr_store rfl rfl sz4 rfl (by repeat (first | exact Upd.here | apply Upd.there)) (by simp [Value.cells])) ?_
    refine ow_nil ?_
    repeat (first
      | refine cw_seq ?_
      | refine cw_block ?_
      | refine cw_skip ?_
      | refine cw_label ?_
      | refine cw_exit ?_
      | refine cw_ret ?_
      | refine qw_then ?_
      | refine qw_block_normal ?_
      | refine qw_block_exit ?_
      | refine qw_block_other rfl ?_
      | refine qw_block_ret ?_
      | refine qw_then_ret ?_
      | refine qw_then_exit ?_
      | refine cw_true rfl ?_
      | refine cw_false rfl ?_
      | refine cw_scope ?_
      | refine qw_scope_normal ?_
      | refine qw_scope_ret ?_
      | refine qw_scope_exit ?_
      | (refine cw_region (id := 0) ?_
         first | (refine o_a rfl (al_box_agg rfl) (fun b2 fb2 => ?_); try simp only [fresh_iff, keysOf, List.map_cons, List.map_nil, List.forall_mem_cons, List.not_mem_nil, false_imp_iff, implies_true, and_true] at fb2) | (refine o_a rfl (al_box rfl) (fun b2 fb2 => ?_); try simp only [fresh_iff, keysOf, List.map_cons, List.map_nil, List.forall_mem_cons, List.not_mem_nil, false_imp_iff, implies_true, and_true] at fb2)
         first | (refine o_a rfl (al_box_agg rfl) (fun b3 fb3 => ?_); try simp only [fresh_iff, keysOf, List.map_cons, List.map_nil, List.forall_mem_cons, List.not_mem_nil, false_imp_iff, implies_true, and_true] at fb3) | (refine o_a rfl (al_box rfl) (fun b3 fb3 => ?_); try simp only [fresh_iff, keysOf, List.map_cons, List.map_nil, List.forall_mem_cons, List.not_mem_nil, false_imp_iff, implies_true, and_true] at fb3)
         first | (refine o_a rfl (al_alloc_agg zero4) (fun b4 fb4 => ?_); try simp only [fresh_iff, keysOf, List.map_cons, List.map_nil, List.forall_mem_cons, List.not_mem_nil, false_imp_iff, implies_true, and_true] at fb4) | (refine o_a rfl (al_alloc zero4) (fun b4 fb4 => ?_); try simp only [fresh_iff, keysOf, List.map_cons, List.map_nil, List.forall_mem_cons, List.not_mem_nil, false_imp_iff, implies_true, and_true] at fb4)
         refine ow_nil ?_)
      | (refine cw_region (id := 2) ?_
         refine o_p rfl rfl ?_
         refine ow_nil ?_)
      | (refine cw_flow (id := 3) 7 mixed (by kernel_rfl) ?_
         refine f_p rfl rfl ?_
         first | refine f_r rfl (rd_indexAddr_arr Try.underlying23 sz5 rfl rfl (by omega) (by omega) (by rw [Nat.zero_add, Nat.mul_one])) ?_ | refine f_r rfl (rd_indexAddr_arr Try.underlying23 sz5 rfl rfl (by omega) (by omega) (by rw [Nat.zero_add])) ?_ | refine f_r rfl (rd_indexAddr_arr Try.underlying23 sz5 rfl rfl (by omega) (by omega) rfl) ?_
         refine f_r rfl (rd_load rfl (by repeat (first | exact List.Mem.head _ | apply List.Mem.tail)) one5 (by first | rfl | assumption)) ?_
         refine f_p rfl rfl ?_
         first | refine f_r rfl (rd_indexAddr_arr Try.underlying23 sz5 rfl rfl (by omega) (by omega) (by rw [Nat.zero_add, Nat.mul_one])) ?_ | refine f_r rfl (rd_indexAddr_arr Try.underlying23 sz5 rfl rfl (by omega) (by omega) (by rw [Nat.zero_add])) ?_ | refine f_r rfl (rd_indexAddr_arr Try.underlying23 sz5 rfl rfl (by omega) (by omega) rfl) ?_
         refine f_r rfl (rd_load rfl (by repeat (first | exact List.Mem.head _ | apply List.Mem.tail)) one5 (by first | rfl | assumption)) ?_
         first | refine f_r rfl (r_cmp rfl rfl rfl (cmp_t (by omega))) ?_ | refine f_r rfl (r_cmp rfl rfl rfl (cmp_f (by omega))) ?_ | refine f_r rfl (r_cmp rfl rfl rfl rfl) ?_
         refine f_end rfl ?_
         repeat (refine end_val ?_)
         refine end_nil ?_
         refine o_w rfl (wr_store rfl rfl sz4 rfl (by repeat (first | exact Upd.here | apply Upd.there)) (by simp [Value.cells])) ?_
         refine ow_nil ?_)
      | (refine cw_region (id := 4) ?_
         refine o_w rfl (wr_store rfl rfl sz4 rfl (by repeat (first | exact Upd.here | apply Upd.there)) (by simp [Value.cells])) ?_
         refine ow_nil ?_))
    obtain ⟨l', hl'⟩ := list_head hx
    exact qw_rnd_ret _ ⟨rfl, x, l', hl', cmp_bool _ _⟩ (fun _ h => h)
  · rintro D c hn hD hq
    have hDw := hD w (by simp)
    have hn' : dTo a b 32 = [] := List.length_eq_zero_iff.1 hn
    have he : aheadD a b = false := by rw [aheadD, hn']
    repeat (first
      | refine cw_seq ?_
      | refine cw_block ?_
      | refine cw_skip ?_
      | refine cw_label ?_
      | refine cw_exit ?_
      | refine cw_ret ?_
      | refine qw_then ?_
      | refine qw_block_normal ?_
      | refine qw_block_exit ?_
      | refine qw_block_other rfl ?_
      | refine qw_block_ret ?_
      | refine qw_then_ret ?_
      | refine qw_then_exit ?_
      | refine cw_true rfl ?_
      | refine cw_false rfl ?_
      | refine cw_scope ?_
      | refine qw_scope_normal ?_
      | refine qw_scope_ret ?_
      | refine qw_scope_exit ?_
      | (refine cw_region (id := 0) ?_
         first | (refine o_a rfl (al_box_agg rfl) (fun b2 fb2 => ?_); try simp only [fresh_iff, keysOf, List.map_cons, List.map_nil, List.forall_mem_cons, List.not_mem_nil, false_imp_iff, implies_true, and_true] at fb2) | (refine o_a rfl (al_box rfl) (fun b2 fb2 => ?_); try simp only [fresh_iff, keysOf, List.map_cons, List.map_nil, List.forall_mem_cons, List.not_mem_nil, false_imp_iff, implies_true, and_true] at fb2)
         first | (refine o_a rfl (al_box_agg rfl) (fun b3 fb3 => ?_); try simp only [fresh_iff, keysOf, List.map_cons, List.map_nil, List.forall_mem_cons, List.not_mem_nil, false_imp_iff, implies_true, and_true] at fb3) | (refine o_a rfl (al_box rfl) (fun b3 fb3 => ?_); try simp only [fresh_iff, keysOf, List.map_cons, List.map_nil, List.forall_mem_cons, List.not_mem_nil, false_imp_iff, implies_true, and_true] at fb3)
         first | (refine o_a rfl (al_alloc_agg zero4) (fun b4 fb4 => ?_); try simp only [fresh_iff, keysOf, List.map_cons, List.map_nil, List.forall_mem_cons, List.not_mem_nil, false_imp_iff, implies_true, and_true] at fb4) | (refine o_a rfl (al_alloc zero4) (fun b4 fb4 => ?_); try simp only [fresh_iff, keysOf, List.map_cons, List.map_nil, List.forall_mem_cons, List.not_mem_nil, false_imp_iff, implies_true, and_true] at fb4)
         refine ow_nil ?_)
      | (refine cw_region (id := 2) ?_
         refine o_p rfl rfl ?_
         refine ow_nil ?_)
      | (refine cw_flow (id := 3) 7 mixed (by kernel_rfl) ?_
         refine f_p rfl rfl ?_
         first | refine f_r rfl (rd_indexAddr_arr Try.underlying23 sz5 rfl rfl (by omega) (by omega) (by rw [Nat.zero_add, Nat.mul_one])) ?_ | refine f_r rfl (rd_indexAddr_arr Try.underlying23 sz5 rfl rfl (by omega) (by omega) (by rw [Nat.zero_add])) ?_ | refine f_r rfl (rd_indexAddr_arr Try.underlying23 sz5 rfl rfl (by omega) (by omega) rfl) ?_
         refine f_r rfl (rd_load rfl (by repeat (first | exact List.Mem.head _ | apply List.Mem.tail)) one5 (by first | rfl | assumption)) ?_
         refine f_p rfl rfl ?_
         first | refine f_r rfl (rd_indexAddr_arr Try.underlying23 sz5 rfl rfl (by omega) (by omega) (by rw [Nat.zero_add, Nat.mul_one])) ?_ | refine f_r rfl (rd_indexAddr_arr Try.underlying23 sz5 rfl rfl (by omega) (by omega) (by rw [Nat.zero_add])) ?_ | refine f_r rfl (rd_indexAddr_arr Try.underlying23 sz5 rfl rfl (by omega) (by omega) rfl) ?_
         refine f_r rfl (rd_load rfl (by repeat (first | exact List.Mem.head _ | apply List.Mem.tail)) one5 (by first | rfl | assumption)) ?_
         first | refine f_r rfl (r_cmp rfl rfl rfl (cmp_t (by omega))) ?_ | refine f_r rfl (r_cmp rfl rfl rfl (cmp_f (by omega))) ?_ | refine f_r rfl (r_cmp rfl rfl rfl rfl) ?_
         refine f_end rfl ?_
         repeat (refine end_val ?_)
         refine end_nil ?_
         refine o_w rfl (wr_store rfl rfl sz4 rfl (by repeat (first | exact Upd.here | apply Upd.there)) (by simp [Value.cells])) ?_
         refine ow_nil ?_)
      | (refine cw_region (id := 4) ?_
         refine o_w rfl (wr_store rfl rfl sz4 rfl (by repeat (first | exact Upd.here | apply Upd.there)) (by simp [Value.cells])) ?_
         refine ow_nil ?_))
    rw [he]
    exact finM1 (.inl rfl) (UpdD.cons Upd.here .nil) rfl (res_cell rfl (by repeat (first | exact List.Mem.head _ | apply List.Mem.tail)) one4 rfl) (fun v hv => ⟨rfl, hv.below (by simp) (by simp only [keysOf, List.map_cons, List.map_nil, List.forall_mem_cons, List.not_mem_nil, false_imp_iff, implies_true, and_true] <;> omega)⟩)
  · rintro D c k code ⟨rfl, x, l, hl, rfl⟩ h0 hk hD hq
    have hDw := hD w (by simp)
    have he : aheadD a b = decide (kn a x.1 < kn b x.1) := by rw [aheadD, hl]
    repeat (first
      | refine cw_seq ?_
      | refine cw_block ?_
      | refine cw_skip ?_
      | refine cw_label ?_
      | refine cw_exit ?_
      | refine cw_ret ?_
      | refine qw_then ?_
      | refine qw_block_normal ?_
      | refine qw_block_exit ?_
      | refine qw_block_other rfl ?_
      | refine qw_block_ret ?_
      | refine qw_then_ret ?_
      | refine qw_then_exit ?_
      | refine cw_true rfl ?_
      | refine cw_false rfl ?_
      | refine cw_scope ?_
      | refine qw_scope_normal ?_
      | refine qw_scope_ret ?_
      | refine qw_scope_exit ?_
      | (refine cw_region (id := 0) ?_
         first | (refine o_a rfl (al_box_agg rfl) (fun b2 fb2 => ?_); try simp only [fresh_iff, keysOf, List.map_cons, List.map_nil, List.forall_mem_cons, List.not_mem_nil, false_imp_iff, implies_true, and_true] at fb2) | (refine o_a rfl (al_box rfl) (fun b2 fb2 => ?_); try simp only [fresh_iff, keysOf, List.map_cons, List.map_nil, List.forall_mem_cons, List.not_mem_nil, false_imp_iff, implies_true, and_true] at fb2)
         first | (refine o_a rfl (al_box_agg rfl) (fun b3 fb3 => ?_); try simp only [fresh_iff, keysOf, List.map_cons, List.map_nil, List.forall_mem_cons, List.not_mem_nil, false_imp_iff, implies_true, and_true] at fb3) | (refine o_a rfl (al_box rfl) (fun b3 fb3 => ?_); try simp only [fresh_iff, keysOf, List.map_cons, List.map_nil, List.forall_mem_cons, List.not_mem_nil, false_imp_iff, implies_true, and_true] at fb3)
         first | (refine o_a rfl (al_alloc_agg zero4) (fun b4 fb4 => ?_); try simp only [fresh_iff, keysOf, List.map_cons, List.map_nil, List.forall_mem_cons, List.not_mem_nil, false_imp_iff, implies_true, and_true] at fb4) | (refine o_a rfl (al_alloc zero4) (fun b4 fb4 => ?_); try simp only [fresh_iff, keysOf, List.map_cons, List.map_nil, List.forall_mem_cons, List.not_mem_nil, false_imp_iff, implies_true, and_true] at fb4)
         refine ow_nil ?_)
      | (refine cw_region (id := 2) ?_
         refine o_p rfl rfl ?_
         refine ow_nil ?_)
      | (refine cw_flow (id := 3) 7 mixed (by kernel_rfl) ?_
         refine f_p rfl rfl ?_
         first | refine f_r rfl (rd_indexAddr_arr Try.underlying23 sz5 rfl rfl (by omega) (by omega) (by rw [Nat.zero_add, Nat.mul_one])) ?_ | refine f_r rfl (rd_indexAddr_arr Try.underlying23 sz5 rfl rfl (by omega) (by omega) (by rw [Nat.zero_add])) ?_ | refine f_r rfl (rd_indexAddr_arr Try.underlying23 sz5 rfl rfl (by omega) (by omega) rfl) ?_
         refine f_r rfl (rd_load rfl (by repeat (first | exact List.Mem.head _ | apply List.Mem.tail)) one5 (by first | rfl | assumption)) ?_
         refine f_p rfl rfl ?_
         first | refine f_r rfl (rd_indexAddr_arr Try.underlying23 sz5 rfl rfl (by omega) (by omega) (by rw [Nat.zero_add, Nat.mul_one])) ?_ | refine f_r rfl (rd_indexAddr_arr Try.underlying23 sz5 rfl rfl (by omega) (by omega) (by rw [Nat.zero_add])) ?_ | refine f_r rfl (rd_indexAddr_arr Try.underlying23 sz5 rfl rfl (by omega) (by omega) rfl) ?_
         refine f_r rfl (rd_load rfl (by repeat (first | exact List.Mem.head _ | apply List.Mem.tail)) one5 (by first | rfl | assumption)) ?_
         first | refine f_r rfl (r_cmp rfl rfl rfl (cmp_t (by omega))) ?_ | refine f_r rfl (r_cmp rfl rfl rfl (cmp_f (by omega))) ?_ | refine f_r rfl (r_cmp rfl rfl rfl rfl) ?_
         refine f_end rfl ?_
         repeat (refine end_val ?_)
         refine end_nil ?_
         refine o_w rfl (wr_store rfl rfl sz4 rfl (by repeat (first | exact Upd.here | apply Upd.there)) (by simp [Value.cells])) ?_
         refine ow_nil ?_)
      | (refine cw_region (id := 4) ?_
         refine o_w rfl (wr_store rfl rfl sz4 rfl (by repeat (first | exact Upd.here | apply Upd.there)) (by simp [Value.cells])) ?_
         refine ow_nil ?_))
    rw [he]
    exact finM1 (.inl rfl) (UpdD.cons Upd.here .nil) rfl (res_cell rfl (by repeat (first | exact List.Mem.head _ | apply List.Mem.tail)) one4 rfl) (fun v hv => ⟨rfl, hv.below (by simp) (by simp only [keysOf, List.map_cons, List.map_nil, List.forall_mem_cons, List.not_mem_nil, false_imp_iff, implies_true, and_true] <;> omega)⟩)

theorem shared_c (a b : Dig) (w : World) : Calls Try.prog 9 #[.agg (dv a), .agg (dv b)] w fun e w' => e = .returned (.int .i64 (sharedD a b)) ∧ Below w.heap.size w w' := by
  refine enterM Try.func9 rfl (Nat.le_of_ble_eq_true rfl) (kn0 w) (vs := [_, _]) (fr0 := [(0, _), (1, _)]) rfl (n := 17) rfl ?_
  repeat (first
    | refine cw_seq ?_
    | refine cw_block ?_
    | refine cw_skip ?_
    | refine cw_label ?_
    | refine cw_exit ?_
    | refine cw_ret ?_
    | refine qw_then ?_
    | refine qw_block_normal ?_
    | refine qw_block_exit ?_
    | refine qw_block_other rfl ?_
    | refine qw_block_ret ?_
    | refine qw_then_ret ?_
    | refine qw_then_exit ?_
    | refine cw_true rfl ?_
    | refine cw_false rfl ?_
    | refine cw_scope ?_
    | refine qw_scope_normal ?_
    | refine qw_scope_ret ?_
    | refine qw_scope_exit ?_
    | (refine cw_region (id := 0) ?_
       first | (refine o_a rfl (al_box_agg rfl) (fun b2 fb2 => ?_); try simp only [fresh_iff, keysOf, List.map_cons, List.map_nil, List.forall_mem_cons, List.not_mem_nil, false_imp_iff, implies_true, and_true] at fb2) | (refine o_a rfl (al_box rfl) (fun b2 fb2 => ?_); try simp only [fresh_iff, keysOf, List.map_cons, List.map_nil, List.forall_mem_cons, List.not_mem_nil, false_imp_iff, implies_true, and_true] at fb2)
       first | (refine o_a rfl (al_box_agg rfl) (fun b3 fb3 => ?_); try simp only [fresh_iff, keysOf, List.map_cons, List.map_nil, List.forall_mem_cons, List.not_mem_nil, false_imp_iff, implies_true, and_true] at fb3) | (refine o_a rfl (al_box rfl) (fun b3 fb3 => ?_); try simp only [fresh_iff, keysOf, List.map_cons, List.map_nil, List.forall_mem_cons, List.not_mem_nil, false_imp_iff, implies_true, and_true] at fb3)
       first | (refine o_a rfl (al_alloc_agg zero3) (fun b4 fb4 => ?_); try simp only [fresh_iff, keysOf, List.map_cons, List.map_nil, List.forall_mem_cons, List.not_mem_nil, false_imp_iff, implies_true, and_true] at fb4) | (refine o_a rfl (al_alloc zero3) (fun b4 fb4 => ?_); try simp only [fresh_iff, keysOf, List.map_cons, List.map_nil, List.forall_mem_cons, List.not_mem_nil, false_imp_iff, implies_true, and_true] at fb4)
       refine ow_nil ?_)
    | (refine cw_region (id := 2) ?_
       refine o_p rfl rfl ?_
       refine ow_nil ?_)
    | (refine cw_region (id := 3) ?_
       refine o_p rfl rfl ?_
       refine ow_nil ?_)
    | (refine cw_region (id := 4) ?_
       refine o_p rfl rfl ?_
       first | refine o_r rfl (r_ar rfl rfl rfl (IntWalk.i64_in _ (by omega))) ?_ | refine o_r rfl (r_ar rfl rfl rfl rfl) ?_
       refine o_p rfl rfl ?_
       (refine o_c rfl rfl rfl en18 rfl (fun s hs => (lz8_c _ _ (by omega)).mono ?_); rintro e w' ⟨rfl, hb⟩; refine ⟨_, _, _, rfl, hs.grow hb, ?_⟩; clear hb hs w' s)
       first | refine o_r rfl (r_ar rfl rfl rfl (IntWalk.i64_in _ (by omega))) ?_ | refine o_r rfl (r_ar rfl rfl rfl rfl) ?_
       refine o_w rfl (wr_store rfl rfl sz3 rfl (by repeat (first | exact Upd.here | apply Upd.there)) (by simp [Value.cells])) ?_
       refine ow_nil ?_)
    | (refine cw_region (id := 5) ?_
       refine o_w rfl (wr_store rfl rfl sz3 rfl (by repeat (first | exact Upd.here | apply Upd.there)) (by simp [Value.cells])) ?_
       refine ow_nil ?_))
  refine cw_region (id := 1) ?_
  first | refine o_r rfl (rd_load_all rfl (by repeat (first | exact List.Mem.head _ | apply List.Mem.tail)) agg23 (by simp)) ?_ | refine o_r rfl (rd_load_agg rfl (by repeat (first | exact List.Mem.head _ | apply List.Mem.tail)) agg23 (by simp [Value.cells]) (by first | rfl | simp [Value.cells])) ?_
  first | refine o_r rfl (rd_load_all rfl (by repeat (first | exact List.Mem.head _ | apply List.Mem.tail)) agg23 (by simp)) ?_ | refine o_r rfl (rd_load_agg rfl (by repeat (first | exact List.Mem.head _ | apply List.Mem.tail)) agg23 (by simp [Value.cells]) (by first | rfl | simp [Value.cells])) ?_
  refine o_c rfl rfl rfl en17 rfl (fun s hs => apart_call hs ?_)
  intro s Ba Bb h3 h4 h1 h2
  refine ow_nil ?_
  repeat (first
    | refine cw_seq ?_
    | refine cw_block ?_
    | refine cw_skip ?_
    | refine cw_label ?_
    | refine cw_exit ?_
    | refine cw_ret ?_
    | refine qw_then ?_
    | refine qw_block_normal ?_
    | refine qw_block_exit ?_
    | refine qw_block_other rfl ?_
    | refine qw_block_ret ?_
    | refine qw_then_ret ?_
    | refine qw_then_exit ?_
    | refine cw_true rfl ?_
    | refine cw_false rfl ?_
    | refine cw_scope ?_
    | refine qw_scope_normal ?_
    | refine qw_scope_ret ?_
    | refine qw_scope_exit ?_)
  refine cw_range encD (fun k => k = Ba ∨ k = Bb) (dTo a b 32) (fun c : Value => [(b4, .cells #[c] 3 (0, 0)), (b3, .cells (dv b) 23 (0, 0)), (b2, .cells (dv a) 23 (0, 0))])
    (fun k c => k = 0) (fun code k c => code = .ret ∧ ∃ x l, dTo a b 32 = x :: l ∧ c = .int .i64 (8 * (x.1 : Int) + (8 - lenM x.2))) (.int .i64 0)
    (fun k x (_ : Unit) => [(5, .int .i64 (x.1 : Int)), (6, .int .u8 (x.2 : Int)), (2, .pointer (some ⟨b2, 0, none⟩)), (3, .pointer (some ⟨b3, 0, none⟩)), (4, .pointer (some ⟨b4, 0, none⟩))]) (fun _ _ _ => []) (fun _ _ _ => True)
    [(2, .pointer (some ⟨b2, 0, none⟩)), (3, .pointer (some ⟨b3, 0, none⟩)), (4, .pointer (some ⟨b4, 0, none⟩))]
    rfl en20 (by repeat (first | exact trivial | refine ⟨rfl, ?_⟩)) (fun v hv => apart_it' a b h3 h4 h1 h2 hv) (fun v hv => apart_rd h3 h4 h1 h2 hv) (fun _ => rfl) (by kernel_rfl) rfl rfl (fun _ => rfl) ?_ ?_ ?_ ?_
  · rintro l D s1 ol k x c - hx rfl hD hq hl hs1
    repeat (first
      | refine cw_seq ?_
      | refine cw_block ?_
      | refine cw_skip ?_
      | refine cw_label ?_
      | refine cw_exit ?_
      | refine cw_ret ?_
      | refine qw_then ?_
      | refine qw_block_normal ?_
      | refine qw_block_exit ?_
      | refine qw_block_other rfl ?_
      | refine qw_block_ret ?_
      | refine qw_then_ret ?_
      | refine qw_then_exit ?_
      | refine cw_true rfl ?_
      | refine cw_false rfl ?_
      | refine cw_scope ?_
      | refine qw_scope_normal ?_
      | refine qw_scope_ret ?_
      | refine qw_scope_exit ?_
      | (refine cw_region (id := 0) ?_
         first | (refine o_a rfl (al_box_agg rfl) (fun b2 fb2 => ?_); try simp only [fresh_iff, keysOf, List.map_cons, List.map_nil, List.forall_mem_cons, List.not_mem_nil, false_imp_iff, implies_true, and_true] at fb2) | (refine o_a rfl (al_box rfl) (fun b2 fb2 => ?_); try simp only [fresh_iff, keysOf, List.map_cons, List.map_nil, List.forall_mem_cons, List.not_mem_nil, false_imp_iff, implies_true, and_true] at fb2)
         first | (refine o_a rfl (al_box_agg rfl) (fun b3 fb3 => ?_); try simp only [fresh_iff, keysOf, List.map_cons, List.map_nil, List.forall_mem_cons, List.not_mem_nil, false_imp_iff, implies_true, and_true] at fb3) | (refine o_a rfl (al_box rfl) (fun b3 fb3 => ?_); try simp only [fresh_iff, keysOf, List.map_cons, List.map_nil, List.forall_mem_cons, List.not_mem_nil, false_imp_iff, implies_true, and_true] at fb3)
         first | (refine o_a rfl (al_alloc_agg zero3) (fun b4 fb4 => ?_); try simp only [fresh_iff, keysOf, List.map_cons, List.map_nil, List.forall_mem_cons, List.not_mem_nil, false_imp_iff, implies_true, and_true] at fb4) | (refine o_a rfl (al_alloc zero3) (fun b4 fb4 => ?_); try simp only [fresh_iff, keysOf, List.map_cons, List.map_nil, List.forall_mem_cons, List.not_mem_nil, false_imp_iff, implies_true, and_true] at fb4)
         refine ow_nil ?_)
      | (refine cw_region (id := 2) ?_
         refine o_p rfl rfl ?_
         refine ow_nil ?_)
      | (refine cw_region (id := 3) ?_
         refine o_p rfl rfl ?_
         refine ow_nil ?_)
      | (refine cw_region (id := 4) ?_
         refine o_p rfl rfl ?_
         first | refine o_r rfl (r_ar rfl rfl rfl (IntWalk.i64_in _ (by omega))) ?_ | refine o_r rfl (r_ar rfl rfl rfl rfl) ?_
         refine o_p rfl rfl ?_
         (refine o_c rfl rfl rfl en18 rfl (fun s hs => (lz8_c _ _ (by omega)).mono ?_); rintro e w' ⟨rfl, hb⟩; refine ⟨_, _, _, rfl, hs.grow hb, ?_⟩; clear hb hs w' s)
         first | refine o_r rfl (r_ar rfl rfl rfl (IntWalk.i64_in _ (by omega))) ?_ | refine o_r rfl (r_ar rfl rfl rfl rfl) ?_
         refine o_w rfl (wr_store rfl rfl sz3 rfl (by repeat (first | exact Upd.here | apply Upd.there)) (by simp [Value.cells])) ?_
         refine ow_nil ?_)
      | (refine cw_region (id := 5) ?_
         refine o_w rfl (wr_store rfl rfl sz3 rfl (by repeat (first | exact Upd.here | apply Upd.there)) (by simp [Value.cells])) ?_
         refine ow_nil ?_))
    exact qw_asg () ⟨trivial, by simp [keysOf]⟩ (by repeat (first | exact trivial | refine ⟨rfl, ?_⟩)) (fun _ h => h)
  · rintro l D s1 ol k x c - - hx rfl hD hq hl hs1 - -
    obtain ⟨hx1, hx2, hx3⟩ := dTo_mem (List.mem_of_getElem? hx)
    have hx255 : x.2 ≤ 255 := by rw [hx2]; exact xor_le _ _ (kn_le _ _) (kn_le _ _)
    have hlen := lenM_le _ hx255
    rw [List.nil_append]
    repeat (first
      | refine cw_seq ?_
      | refine cw_block ?_
      | refine cw_skip ?_
      | refine cw_label ?_
      | refine cw_exit ?_
      | refine cw_ret ?_
      | refine qw_then ?_
      | refine qw_block_normal ?_
      | refine qw_block_exit ?_
      | refine qw_block_other rfl ?_
      | refine qw_block_ret ?_
      | refine qw_then_ret ?_
      | refine qw_then_exit ?_
      | refine cw_true rfl ?_
      | refine cw_false rfl ?_
      | refine cw_scope ?_
      | refine qw_scope_normal ?_
      | refine qw_scope_ret ?_
      | refine qw_scope_exit ?_
      | (refine cw_region (id := 0) ?_
         first | (refine o_a rfl (al_box_agg rfl) (fun b2 fb2 => ?_); try simp only [fresh_iff, keysOf, List.map_cons, List.map_nil, List.forall_mem_cons, List.not_mem_nil, false_imp_iff, implies_true, and_true] at fb2) | (refine o_a rfl (al_box rfl) (fun b2 fb2 => ?_); try simp only [fresh_iff, keysOf, List.map_cons, List.map_nil, List.forall_mem_cons, List.not_mem_nil, false_imp_iff, implies_true, and_true] at fb2)
         first | (refine o_a rfl (al_box_agg rfl) (fun b3 fb3 => ?_); try simp only [fresh_iff, keysOf, List.map_cons, List.map_nil, List.forall_mem_cons, List.not_mem_nil, false_imp_iff, implies_true, and_true] at fb3) | (refine o_a rfl (al_box rfl) (fun b3 fb3 => ?_); try simp only [fresh_iff, keysOf, List.map_cons, List.map_nil, List.forall_mem_cons, List.not_mem_nil, false_imp_iff, implies_true, and_true] at fb3)
         first | (refine o_a rfl (al_alloc_agg zero3) (fun b4 fb4 => ?_); try simp only [fresh_iff, keysOf, List.map_cons, List.map_nil, List.forall_mem_cons, List.not_mem_nil, false_imp_iff, implies_true, and_true] at fb4) | (refine o_a rfl (al_alloc zero3) (fun b4 fb4 => ?_); try simp only [fresh_iff, keysOf, List.map_cons, List.map_nil, List.forall_mem_cons, List.not_mem_nil, false_imp_iff, implies_true, and_true] at fb4)
         refine ow_nil ?_)
      | (refine cw_region (id := 2) ?_
         refine o_p rfl rfl ?_
         refine ow_nil ?_)
      | (refine cw_region (id := 3) ?_
         refine o_p rfl rfl ?_
         refine ow_nil ?_)
      | (refine cw_region (id := 4) ?_
         refine o_p rfl rfl ?_
         first | refine o_r rfl (r_ar rfl rfl rfl (IntWalk.i64_in _ (by omega))) ?_ | refine o_r rfl (r_ar rfl rfl rfl rfl) ?_
         refine o_p rfl rfl ?_
         (refine o_c rfl rfl rfl en18 rfl (fun s hs => (lz8_c _ _ (by omega)).mono ?_); rintro e w' ⟨rfl, hb⟩; refine ⟨_, _, _, rfl, hs.grow hb, ?_⟩; clear hb hs w' s)
         first | refine o_r rfl (r_ar rfl rfl rfl (IntWalk.i64_in _ (by omega))) ?_ | refine o_r rfl (r_ar rfl rfl rfl rfl) ?_
         refine o_w rfl (wr_store rfl rfl sz3 rfl (by repeat (first | exact Upd.here | apply Upd.there)) (by simp [Value.cells])) ?_
         refine ow_nil ?_)
      | (refine cw_region (id := 5) ?_
         refine o_w rfl (wr_store rfl rfl sz3 rfl (by repeat (first | exact Upd.here | apply Upd.there)) (by simp [Value.cells])) ?_
         refine ow_nil ?_))
    obtain ⟨l', hl'⟩ := list_head hx
    exact qw_rnd_ret _ ⟨rfl, x, l', hl', rfl⟩ (fun _ h => h)
  · rintro D c hn hD hq
    have hDw := hD w (by simp)
    have hn' : dTo a b 32 = [] := List.length_eq_zero_iff.1 hn
    have he : (sharedD a b : Int) = 256 := by rw [sharedD, hn']; rfl
    repeat (first
      | refine cw_seq ?_
      | refine cw_block ?_
      | refine cw_skip ?_
      | refine cw_label ?_
      | refine cw_exit ?_
      | refine cw_ret ?_
      | refine qw_then ?_
      | refine qw_block_normal ?_
      | refine qw_block_exit ?_
      | refine qw_block_other rfl ?_
      | refine qw_block_ret ?_
      | refine qw_then_ret ?_
      | refine qw_then_exit ?_
      | refine cw_true rfl ?_
      | refine cw_false rfl ?_
      | refine cw_scope ?_
      | refine qw_scope_normal ?_
      | refine qw_scope_ret ?_
      | refine qw_scope_exit ?_
      | (refine cw_region (id := 0) ?_
         first | (refine o_a rfl (al_box_agg rfl) (fun b2 fb2 => ?_); try simp only [fresh_iff, keysOf, List.map_cons, List.map_nil, List.forall_mem_cons, List.not_mem_nil, false_imp_iff, implies_true, and_true] at fb2) | (refine o_a rfl (al_box rfl) (fun b2 fb2 => ?_); try simp only [fresh_iff, keysOf, List.map_cons, List.map_nil, List.forall_mem_cons, List.not_mem_nil, false_imp_iff, implies_true, and_true] at fb2)
         first | (refine o_a rfl (al_box_agg rfl) (fun b3 fb3 => ?_); try simp only [fresh_iff, keysOf, List.map_cons, List.map_nil, List.forall_mem_cons, List.not_mem_nil, false_imp_iff, implies_true, and_true] at fb3) | (refine o_a rfl (al_box rfl) (fun b3 fb3 => ?_); try simp only [fresh_iff, keysOf, List.map_cons, List.map_nil, List.forall_mem_cons, List.not_mem_nil, false_imp_iff, implies_true, and_true] at fb3)
         first | (refine o_a rfl (al_alloc_agg zero3) (fun b4 fb4 => ?_); try simp only [fresh_iff, keysOf, List.map_cons, List.map_nil, List.forall_mem_cons, List.not_mem_nil, false_imp_iff, implies_true, and_true] at fb4) | (refine o_a rfl (al_alloc zero3) (fun b4 fb4 => ?_); try simp only [fresh_iff, keysOf, List.map_cons, List.map_nil, List.forall_mem_cons, List.not_mem_nil, false_imp_iff, implies_true, and_true] at fb4)
         refine ow_nil ?_)
      | (refine cw_region (id := 2) ?_
         refine o_p rfl rfl ?_
         refine ow_nil ?_)
      | (refine cw_region (id := 3) ?_
         refine o_p rfl rfl ?_
         refine ow_nil ?_)
      | (refine cw_region (id := 4) ?_
         refine o_p rfl rfl ?_
         first | refine o_r rfl (r_ar rfl rfl rfl (IntWalk.i64_in _ (by omega))) ?_ | refine o_r rfl (r_ar rfl rfl rfl rfl) ?_
         refine o_p rfl rfl ?_
         (refine o_c rfl rfl rfl en18 rfl (fun s hs => (lz8_c _ _ (by omega)).mono ?_); rintro e w' ⟨rfl, hb⟩; refine ⟨_, _, _, rfl, hs.grow hb, ?_⟩; clear hb hs w' s)
         first | refine o_r rfl (r_ar rfl rfl rfl (IntWalk.i64_in _ (by omega))) ?_ | refine o_r rfl (r_ar rfl rfl rfl rfl) ?_
         refine o_w rfl (wr_store rfl rfl sz3 rfl (by repeat (first | exact Upd.here | apply Upd.there)) (by simp [Value.cells])) ?_
         refine ow_nil ?_)
      | (refine cw_region (id := 5) ?_
         refine o_w rfl (wr_store rfl rfl sz3 rfl (by repeat (first | exact Upd.here | apply Upd.there)) (by simp [Value.cells])) ?_
         refine ow_nil ?_))
    rw [he]
    exact finM1 (.inl rfl) (UpdD.cons Upd.here .nil) rfl (res_cell rfl (by repeat (first | exact List.Mem.head _ | apply List.Mem.tail)) one3 rfl) (fun v hv => ⟨rfl, hv.below (by simp) (by simp only [keysOf, List.map_cons, List.map_nil, List.forall_mem_cons, List.not_mem_nil, false_imp_iff, implies_true, and_true] <;> omega)⟩)
  · rintro D c k code ⟨rfl, x, l, hl, rfl⟩ h0 hk hD hq
    have hDw := hD w (by simp)
    have hx2 : x.2 ≤ 255 := by rw [(dTo_mem (a := a) (b := b) (n := 32) (x := x) (by rw [hl]; simp)).2.1]; exact xor_le _ _ (kn_le _ _) (kn_le _ _)
    have hlen := lenM_le _ hx2
    have he : (sharedD a b : Int) = 8 * (x.1 : Int) + (8 - lenM x.2) := by rw [sharedD, hl]; simp only; omega
    repeat (first
      | refine cw_seq ?_
      | refine cw_block ?_
      | refine cw_skip ?_
      | refine cw_label ?_
      | refine cw_exit ?_
      | refine cw_ret ?_
      | refine qw_then ?_
      | refine qw_block_normal ?_
      | refine qw_block_exit ?_
      | refine qw_block_other rfl ?_
      | refine qw_block_ret ?_
      | refine qw_then_ret ?_
      | refine qw_then_exit ?_
      | refine cw_true rfl ?_
      | refine cw_false rfl ?_
      | refine cw_scope ?_
      | refine qw_scope_normal ?_
      | refine qw_scope_ret ?_
      | refine qw_scope_exit ?_
      | (refine cw_region (id := 0) ?_
         first | (refine o_a rfl (al_box_agg rfl) (fun b2 fb2 => ?_); try simp only [fresh_iff, keysOf, List.map_cons, List.map_nil, List.forall_mem_cons, List.not_mem_nil, false_imp_iff, implies_true, and_true] at fb2) | (refine o_a rfl (al_box rfl) (fun b2 fb2 => ?_); try simp only [fresh_iff, keysOf, List.map_cons, List.map_nil, List.forall_mem_cons, List.not_mem_nil, false_imp_iff, implies_true, and_true] at fb2)
         first | (refine o_a rfl (al_box_agg rfl) (fun b3 fb3 => ?_); try simp only [fresh_iff, keysOf, List.map_cons, List.map_nil, List.forall_mem_cons, List.not_mem_nil, false_imp_iff, implies_true, and_true] at fb3) | (refine o_a rfl (al_box rfl) (fun b3 fb3 => ?_); try simp only [fresh_iff, keysOf, List.map_cons, List.map_nil, List.forall_mem_cons, List.not_mem_nil, false_imp_iff, implies_true, and_true] at fb3)
         first | (refine o_a rfl (al_alloc_agg zero3) (fun b4 fb4 => ?_); try simp only [fresh_iff, keysOf, List.map_cons, List.map_nil, List.forall_mem_cons, List.not_mem_nil, false_imp_iff, implies_true, and_true] at fb4) | (refine o_a rfl (al_alloc zero3) (fun b4 fb4 => ?_); try simp only [fresh_iff, keysOf, List.map_cons, List.map_nil, List.forall_mem_cons, List.not_mem_nil, false_imp_iff, implies_true, and_true] at fb4)
         refine ow_nil ?_)
      | (refine cw_region (id := 2) ?_
         refine o_p rfl rfl ?_
         refine ow_nil ?_)
      | (refine cw_region (id := 3) ?_
         refine o_p rfl rfl ?_
         refine ow_nil ?_)
      | (refine cw_region (id := 4) ?_
         refine o_p rfl rfl ?_
         first | refine o_r rfl (r_ar rfl rfl rfl (IntWalk.i64_in _ (by omega))) ?_ | refine o_r rfl (r_ar rfl rfl rfl rfl) ?_
         refine o_p rfl rfl ?_
         (refine o_c rfl rfl rfl en18 rfl (fun s hs => (lz8_c _ _ (by omega)).mono ?_); rintro e w' ⟨rfl, hb⟩; refine ⟨_, _, _, rfl, hs.grow hb, ?_⟩; clear hb hs w' s)
         first | refine o_r rfl (r_ar rfl rfl rfl (IntWalk.i64_in _ (by omega))) ?_ | refine o_r rfl (r_ar rfl rfl rfl rfl) ?_
         refine o_w rfl (wr_store rfl rfl sz3 rfl (by repeat (first | exact Upd.here | apply Upd.there)) (by simp [Value.cells])) ?_
         refine ow_nil ?_)
      | (refine cw_region (id := 5) ?_
         refine o_w rfl (wr_store rfl rfl sz3 rfl (by repeat (first | exact Upd.here | apply Upd.there)) (by simp [Value.cells])) ?_
         refine ow_nil ?_))
    rw [he]
    exact finM1 (.inl rfl) (UpdD.cons Upd.here .nil) rfl (res_cell rfl (by repeat (first | exact List.Mem.head _ | apply List.Mem.tail)) one3 rfl) (fun v hv => ⟨rfl, hv.below (by simp) (by simp only [keysOf, List.map_cons, List.map_nil, List.forall_mem_cons, List.not_mem_nil, false_imp_iff, implies_true, and_true] <;> omega)⟩)
end Go.Proofs.Ytnlhkpdclnhneaa

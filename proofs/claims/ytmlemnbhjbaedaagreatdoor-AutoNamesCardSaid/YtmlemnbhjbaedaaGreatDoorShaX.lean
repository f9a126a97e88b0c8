/-
  SHA-256 of the program: one block.
-/
import Derived.Test.YtmlemnbhjbaedaaGreatDoorShaW
namespace Go.Proofs.YtmlemnbhjbaedaaGreatDoor
open Go.RowKit
set_option linter.unusedSimpArgs false
set_option linter.unusedVariables false
attribute [local irreducible] CoW OpW FlW Step Spec
noncomputable def wordN (b0 b1 b2 b3 : Nat) : Nat := orN (orN (orN (shlN (b0 % 4294967296) 24) (shlN (b1 % 4294967296) 16)) (shlN (b2 % 4294967296) 8)) (b3 % 4294967296)
noncomputable def nextW (bs : Nat → Nat) (l : List Nat) : Nat := match Nat.blt l.length 16 with
  | true => wordN (bs (4 * l.length)) (bs (4 * l.length + 1)) (bs (4 * l.length + 2)) (bs (4 * l.length + 3))
  | false => addN (addN (addN (l.getD (l.length - 16) 0) (xorN (xorN (rotN (l.getD (l.length - 15) 0) 7) (rotN (l.getD (l.length - 15) 0) 18)) (shrN (l.getD (l.length - 15) 0) 3))) (l.getD (l.length - 7) 0)) (xorN (xorN (rotN (l.getD (l.length - 2) 0) 17) (rotN (l.getD (l.length - 2) 0) 19)) (shrN (l.getD (l.length - 2) 0) 10))
noncomputable def sched (bs : Nat → Nat) : Nat → List Nat
  | 0 => []
  | t + 1 => sched bs t ++ [nextW bs (sched bs t)]
theorem sched_len (bs : Nat → Nat) : ∀ t, (sched bs t).length = t
  | 0 => rfl
  | t + 1 => by simp [sched, sched_len bs t]
theorem map_at {l : List Nat} {i : Nat} (h : i < l.length) : (l.map wd)[i]? = some (wd (l.getD i 0)) := by
  simp [List.getElem?_map, List.getElem?_eq_getElem h, List.getD]
noncomputable def kW : List Nat := [1116352408, 1899447441, 3049323471, 3921009573, 961987163, 1508970993, 2453635748, 2870763221, 3624381080, 310598401, 607225278, 1426881987, 1925078388, 2162078206, 2614888103, 3248222580, 3835390401, 4022224774, 264347078, 604807628, 770255983, 1249150122, 1555081692, 1996064986, 2554220882, 2821834349, 2952996808, 3210313671, 3336571891, 3584528711, 113926993, 338241895, 666307205, 773529912, 1294757372, 1396182291, 1695183700, 1986661051, 2177026350, 2456956037, 2730485921, 2820302411, 3259730800, 3345764771, 3516065817, 3600352804, 4094571909, 275423344, 430227734, 506948616, 659060556, 883997877, 958139571, 1322822218, 1537002063, 1747873779, 1955562222, 2024104815, 2227730452, 2361852424, 2428436474, 2756734187, 3204031479, 3329325298]
noncomputable def glK : Nat → Option W := fun g => match g with
  | 1 => some (.arr 64 1 (kW.map wd))
  | _ => none
noncomputable def pad0 (l : List Nat) (n : Nat) : List Nat := l ++ List.replicate (n - l.length) 0
theorem pad0_at {l : List Nat} {n i : Nat} (h : i < l.length) : ((pad0 l n).map wd)[i]? = some (wd (l.getD i 0)) := by
  have : i < (pad0 l n).length := by simp [pad0]; omega
  rw [map_at this]
  simp [pad0, List.getD, List.getElem?_append, h]
theorem pad0_ge {l : List Nat} {n : Nat} (h : l.length < n) : ((pad0 l n).map wd)[l.length]? = some (wd 0) := by
  have : l.length < (pad0 l n).length := by simp [pad0]; omega
  rw [map_at this]
  simp [pad0, List.getD, List.getElem?_append, List.getElem?_replicate, show 0 < n - l.length by omega]
theorem pad0_set {l : List Nat} {n x : Nat} (h : l.length < n) : ((pad0 l n).map wd).set l.length (wd x) = (pad0 (l ++ [x]) n).map wd := by
  rw [← List.map_set]
  congr 1
  unfold pad0
  rw [List.set_append_right _ _ (Nat.le_refl _)]
  have : n - l.length = (n - (l ++ [x]).length) + 1 := by simp; omega
  rw [this, Nat.sub_self, List.replicate_succ, List.set_cons_zero, List.append_assoc]
  rfl
/-- eight words -/
structure S8 where
  (a b c d e f g h : Nat)
noncomputable def S8.l (s : S8) : List W := [wd s.a, wd s.b, wd s.c, wd s.d, wd s.e, wd s.f, wd s.g, wd s.h]
noncomputable def roundN (k w : Nat) (v : S8) : S8 :=
  let one := addN (addN (addN (addN v.h (xorN (xorN (rotN v.e 6) (rotN v.e 11)) (rotN v.e 25))) (xorN (andN v.e v.f) (andN (notN v.e) v.g))) k) w
  let two := addN (xorN (xorN (rotN v.a 2) (rotN v.a 13)) (rotN v.a 22)) (xorN (xorN (andN v.a v.b) (andN v.a v.c)) (andN v.b v.c))
  ⟨addN one two, v.a, v.b, v.c, addN v.d one, v.e, v.f, v.g⟩
noncomputable def rounds (ws : List Nat) (s : S8) : Nat → S8
  | 0 => s
  | t + 1 => roundN (kW.getD t 0) (ws.getD t 0) (rounds ws s t)
noncomputable def add8 (s v : S8) : S8 := ⟨addN s.a v.a, addN s.b v.b, addN s.c v.c, addN s.d v.d, addN s.e v.e, addN s.f v.f, addN s.g v.g, addN s.h v.h⟩
/-- a block, reckoned -/
noncomputable def blockN (bs : Nat → Nat) (s : S8) : S8 := add8 s (rounds (sched bs 64) s 64)
noncomputable def mix8 (s v : S8) : Nat → List W
  | 0 => s.l
  | 1 => [wd (addN s.a v.a), wd s.b, wd s.c, wd s.d, wd s.e, wd s.f, wd s.g, wd s.h]
  | 2 => [wd (addN s.a v.a), wd (addN s.b v.b), wd s.c, wd s.d, wd s.e, wd s.f, wd s.g, wd s.h]
  | 3 => [wd (addN s.a v.a), wd (addN s.b v.b), wd (addN s.c v.c), wd s.d, wd s.e, wd s.f, wd s.g, wd s.h]
  | 4 => [wd (addN s.a v.a), wd (addN s.b v.b), wd (addN s.c v.c), wd (addN s.d v.d), wd s.e, wd s.f, wd s.g, wd s.h]
  | 5 => [wd (addN s.a v.a), wd (addN s.b v.b), wd (addN s.c v.c), wd (addN s.d v.d), wd (addN s.e v.e), wd s.f, wd s.g, wd s.h]
  | 6 => [wd (addN s.a v.a), wd (addN s.b v.b), wd (addN s.c v.c), wd (addN s.d v.d), wd (addN s.e v.e), wd (addN s.f v.f), wd s.g, wd s.h]
  | 7 => [wd (addN s.a v.a), wd (addN s.b v.b), wd (addN s.c v.c), wd (addN s.d v.d), wd (addN s.e v.e), wd (addN s.f v.f), wd (addN s.g v.g), wd s.h]
  | _ => (add8 s v).l
theorem kW_len : kW.length = 64 := rfl
set_option maxHeartbeats 1600000 in
theorem block_s (s : S8) (bs : Nat → Nat) (c : W) (base off : Nat) (lim : Option Nat) (ty : TypeId) (hc : refB 2 c = true) (hby : ∀ i, i < 64 → getAtW 50 c (off + i * 1) 1 false = some (.int .u8 (.ofNat (bs i)))) (R : Res) :
    Spec cfg glK 300 2 [.ptr 0 0, .sl 1 base off 64 1 lim] [(0, 479, .arr 8 1 s.l), (1, ty, c)] R fun w hp nw R' => R' = R ∧ w = .tup [] ∧ hp = [(0, 479, .arr 8 1 (blockN bs s).l), (1, ty, c)] ∧ nw = 2 := by
  refine spec_in (fn := Tryz.f300) rfl rfl rfl (Nat.le_of_ble_eq_true rfl) (fun k0 => ?_)
  refine co_seq ?_
  refine co_region (id := 0) ?_
  refine op_mem rfl rfl ?_
  refine op_nil ?_
  refine q_seq ?_
  refine co_seq ?_
  refine co_seq ?_
  refine co_region (id := 1) ?_
  refine op_pure rfl rfl ?_
  refine op_nil ?_
  refine q_seq ?_
  refine co_block ?_
  refine co_loop (fun t : Nat => t ≤ 64) (fun t => [(19, .int .i64 (t : Int)), (4, .ptr 2 0), (1, .sl 1 base off 64 1 lim), (0, .ptr 0 0)]) (fun t => [(2, 536, .arr 64 1 ((pad0 (sched bs t) 64).map wd)), (0, 479, .arr 8 1 s.l), (1, ty, c)]) (fun _ => 3) (fun _ => R) (fun t => 64 - t) 0 (Nat.zero_le _) ?_ (fun t ht => ?_)
  · exact ent_sub ⟨rfl, rfl, rfl, rfl, trivial⟩ rfl rfl
  have hl := sched_len bs t
  refine co_seq ?_
  refine co_region (id := 2) ?_
  refine op_pure rfl rfl ?_
  refine op_nil ?_
  refine q_seq ?_
  refine co_seq ?_
  refine co_cond rfl (fun hc1 => ?_) (fun hc1 => ?_)
  · have ht1 : t < 64 := by have := ltI_iff.1 hc1; omega
    have h0 : ((pad0 (sched bs t) 64).map wd)[0 + t * 1]? = some (wd 0) := by
      have := pad0_ge (l := sched bs t) (n := 64) (by omega)
      rw [hl] at this; simpa using this
    have key : ∀ x, nextW bs (sched bs t) = x → ((pad0 (sched bs t) 64).map wd).set (0 + t * 1) (wd x) = (pad0 (sched bs (t + 1)) 64).map wd := fun x hx => by
      have := pad0_set (l := sched bs t) (n := 64) (x := x) (by omega)
      rw [hl] at this
      rw [Nat.zero_add, Nat.mul_one, this, sched, hx]
    refine co_skip ?_
    refine q_seq ?_
    refine co_seq ?_
    refine co_block ?_
    refine co_seq ?_
    refine co_region (id := 3) ?_
    refine op_pure rfl rfl ?_
    refine op_pure rfl rfl ?_
    refine op_nil ?_
    refine q_seq ?_
    refine co_seq ?_
    refine co_seq ?_
    refine co_region (id := 4) ?_
    refine op_pure rfl rfl ?_
    refine op_pure rfl rfl ?_
    refine op_nil ?_
    refine q_seq ?_
    refine co_cond rfl (fun hc2 => ?_) (fun hc2 => ?_)
    · have ht2 : t < 16 := by have := ltI_iff.1 hc2; omega
      refine co_seq ?_
      refine co_flow (id := 5) ?_
      refine fl_pure rfl rfl ?_
      refine fl_pure rfl rfl ?_
      refine fl_pure rfl rfl ?_
      first | refine fl_wrap rfl rfl ⟨by omega, by omega⟩ ?_ | refine fl_pure rfl rfl ?_
      refine fl_pure rfl (ix_sl (i := 4 * t) rfl rfl rfl rfl rfl rfl rfl (by omega)) ?_
      refine fl_mem rfl (ld_own rfl rfl rfl (hby _ (by omega))) (by first | rfl | kernel_rfl) ?_
      first | refine fl_wrap rfl rfl ⟨by omega, by omega⟩ ?_ | refine fl_pure rfl rfl ?_
      refine fl_pure rfl rfl ?_
      refine fl_pure rfl rfl ?_
      refine fl_pure rfl rfl ?_
      first | refine fl_wrap rfl rfl ⟨by omega, by omega⟩ ?_ | refine fl_pure rfl rfl ?_
      first | refine fl_wrap rfl rfl ⟨by omega, by omega⟩ ?_ | refine fl_pure rfl rfl ?_
      refine fl_pure rfl (ix_sl (i := 4 * t + 1) rfl rfl rfl rfl rfl rfl rfl (by omega)) ?_
      refine fl_mem rfl (ld_own rfl rfl rfl (hby _ (by omega))) (by first | rfl | kernel_rfl) ?_
      first | refine fl_wrap rfl rfl ⟨by omega, by omega⟩ ?_ | refine fl_pure rfl rfl ?_
      refine fl_pure rfl rfl ?_
      refine fl_pure rfl rfl ?_
      refine fl_pure rfl rfl ?_
      refine fl_pure rfl rfl ?_
      first | refine fl_wrap rfl rfl ⟨by omega, by omega⟩ ?_ | refine fl_pure rfl rfl ?_
      first | refine fl_wrap rfl rfl ⟨by omega, by omega⟩ ?_ | refine fl_pure rfl rfl ?_
      refine fl_pure rfl (ix_sl (i := 4 * t + 2) rfl rfl rfl rfl rfl rfl rfl (by omega)) ?_
      refine fl_mem rfl (ld_own rfl rfl rfl (hby _ (by omega))) (by first | rfl | kernel_rfl) ?_
      first | refine fl_wrap rfl rfl ⟨by omega, by omega⟩ ?_ | refine fl_pure rfl rfl ?_
      refine fl_pure rfl rfl ?_
      refine fl_pure rfl rfl ?_
      refine fl_pure rfl rfl ?_
      refine fl_pure rfl rfl ?_
      first | refine fl_wrap rfl rfl ⟨by omega, by omega⟩ ?_ | refine fl_pure rfl rfl ?_
      first | refine fl_wrap rfl rfl ⟨by omega, by omega⟩ ?_ | refine fl_pure rfl rfl ?_
      refine fl_pure rfl (ix_sl (i := 4 * t + 3) rfl rfl rfl rfl rfl rfl rfl (by omega)) ?_
      refine fl_mem rfl (ld_own rfl rfl rfl (hby _ (by omega))) (by first | rfl | kernel_rfl) ?_
      first | refine fl_wrap rfl rfl ⟨by omega, by omega⟩ ?_ | refine fl_pure rfl rfl ?_
      refine fl_pure rfl rfl ?_
      refine fl_pure rfl (ix_arr (i := t) rfl rfl rfl rfl rfl rfl (by omega)) ?_
      refine fl_mem rfl (st_own rfl rfl rfl rfl rfl (put_arr1 h0 rfl rfl) rfl) (by first | rfl | kernel_rfl) ?_
      refine fl_nil ?_
      refine q_seq ?_
      refine co_exit ?_
      refine q_seqx (by intro h; cases h) ?_
      refine q_blk ?_
      refine q_seq ?_
      refine co_region (id := 8) ?_
      first | refine op_wrap rfl rfl ⟨by omega, by omega⟩ ?_ | refine op_pure rfl rfl ?_
      refine op_pure rfl rfl ?_
      refine op_nil ?_
      refine q_again (t + 1) (by omega) (by omega) (ent_sub ⟨rfl, rfl, rfl, rfl, trivial⟩ (congrArg (fun L => [(2, 536, W.arr 64 1 L), (0, 479, .arr 8 1 s.l), (1, ty, c)]) (key (wordN (bs (4 * t)) (bs (4 * t + 1)) (bs (4 * t + 2)) (bs (4 * t + 3))) ?_)) rfl)
      have hb : Nat.blt (sched bs t).length 16 = true := by rw [hl]; simpa [Nat.blt_eq] using ht2
      unfold nextW
      rw [hb]
      simp only [hl]
    · have ht2 : ¬ t < 16 := by have := ltI_not.1 hc2; omega
      have hA : ∀ k, k < t → ((pad0 (sched bs t) 64).map wd)[0 + k * 1]? = some (wd ((sched bs t).getD k 0)) := fun k hk => by
        rw [Nat.zero_add, Nat.mul_one]; exact pad0_at (by omega)
      refine co_skip ?_
      refine q_seq ?_
      refine co_seq ?_
      refine co_flow (id := 6) ?_
      refine fl_pure rfl rfl ?_
      refine fl_nat (t - 15) rfl rfl (by first | rfl | omega) ⟨by omega, by omega⟩ ?_
      refine fl_pure rfl (ix_arr (i := t - 15) rfl rfl rfl rfl rfl rfl (by omega)) ?_
      refine fl_mem rfl (ld_own rfl rfl rfl (get_arr1 (hA (t - 15) (by omega)) rfl)) (by first | rfl | kernel_rfl) ?_
      refine fl_pure rfl rfl ?_
      refine fl_nat (t - 2) rfl rfl (by first | rfl | omega) ⟨by omega, by omega⟩ ?_
      refine fl_pure rfl (ix_arr (i := t - 2) rfl rfl rfl rfl rfl rfl (by omega)) ?_
      refine fl_mem rfl (ld_own rfl rfl rfl (get_arr1 (hA (t - 2) (by omega)) rfl)) (by first | rfl | kernel_rfl) ?_
      refine fl_pure rfl rfl ?_
      refine fl_pure rfl rfl ?_
      refine fl_nil ?_
      refine q_seq ?_
      refine co_flow (id := 7) ?_
      refine fl_pure rfl rfl ?_
      refine fl_pure rfl rfl ?_
      refine fl_nat (t - 16) rfl rfl (by first | rfl | omega) ⟨by omega, by omega⟩ ?_
      refine fl_pure rfl (ix_arr (i := t - 16) rfl rfl rfl rfl rfl rfl (by omega)) ?_
      refine fl_mem rfl (ld_own rfl rfl rfl (get_arr1 (hA (t - 16) (by omega)) rfl)) (by first | rfl | kernel_rfl) ?_
      refine fl_pure rfl rfl ?_
      (refine fl_step rfl (step_pcall rfl rfl rfl rfl (turned_s _ (by decide) _ _) rfl ?_); rintro w hp1 nw1 ⟨rfl, rfl, rfl⟩; first | refine ⟨rfl, rfl, ?_⟩ | refine ⟨rfl, ?_⟩)
      refine fl_pure rfl rfl ?_
      (refine fl_step rfl (step_pcall rfl rfl rfl rfl (turned_s _ (by decide) _ _) rfl ?_); rintro w hp1 nw1 ⟨rfl, rfl, rfl⟩; first | refine ⟨rfl, rfl, ?_⟩ | refine ⟨rfl, ?_⟩)
      refine fl_pure rfl rfl ?_
      refine fl_pure rfl rfl ?_
      refine fl_pure rfl rfl ?_
      refine fl_pure rfl rfl ?_
      first | refine fl_wrap rfl rfl ⟨by omega, by omega⟩ ?_ | refine fl_pure rfl rfl ?_
      refine fl_pure rfl rfl ?_
      refine fl_nat (t - 7) rfl rfl (by first | rfl | omega) ⟨by omega, by omega⟩ ?_
      refine fl_pure rfl (ix_arr (i := t - 7) rfl rfl rfl rfl rfl rfl (by omega)) ?_
      refine fl_mem rfl (ld_own rfl rfl rfl (get_arr1 (hA (t - 7) (by omega)) rfl)) (by first | rfl | kernel_rfl) ?_
      first | refine fl_wrap rfl rfl ⟨by omega, by omega⟩ ?_ | refine fl_pure rfl rfl ?_
      refine fl_pure rfl rfl ?_
      (refine fl_step rfl (step_pcall rfl rfl rfl rfl (turned_s _ (by decide) _ _) rfl ?_); rintro w hp1 nw1 ⟨rfl, rfl, rfl⟩; first | refine ⟨rfl, rfl, ?_⟩ | refine ⟨rfl, ?_⟩)
      refine fl_pure rfl rfl ?_
      (refine fl_step rfl (step_pcall rfl rfl rfl rfl (turned_s _ (by decide) _ _) rfl ?_); rintro w hp1 nw1 ⟨rfl, rfl, rfl⟩; first | refine ⟨rfl, rfl, ?_⟩ | refine ⟨rfl, ?_⟩)
      refine fl_pure rfl rfl ?_
      refine fl_pure rfl rfl ?_
      refine fl_pure rfl rfl ?_
      refine fl_pure rfl rfl ?_
      first | refine fl_wrap rfl rfl ⟨by omega, by omega⟩ ?_ | refine fl_pure rfl rfl ?_
      refine fl_pure rfl (ix_arr (i := t) rfl rfl rfl rfl rfl rfl (by omega)) ?_
      refine fl_mem rfl (st_own rfl rfl rfl rfl rfl (put_arr1 h0 rfl rfl) rfl) (by first | rfl | kernel_rfl) ?_
      refine fl_nil ?_
      refine q_blkn (by intro i h; cases h) ?_
      refine q_seq ?_
      refine co_region (id := 8) ?_
      first | refine op_wrap rfl rfl ⟨by omega, by omega⟩ ?_ | refine op_pure rfl rfl ?_
      refine op_pure rfl rfl ?_
      refine op_nil ?_
      refine q_again (t + 1) (by omega) (by omega) (ent_sub ⟨rfl, rfl, rfl, rfl, trivial⟩ (congrArg (fun L => [(2, 536, W.arr 64 1 L), (0, 479, .arr 8 1 s.l), (1, ty, c)]) (key (addN (addN (addN ((sched bs t).getD (t - 16) 0) (xorN (xorN (rotN ((sched bs t).getD (t - 15) 0) 7) (rotN ((sched bs t).getD (t - 15) 0) 18)) (shrN ((sched bs t).getD (t - 15) 0) 3))) ((sched bs t).getD (t - 7) 0)) (xorN (xorN (rotN ((sched bs t).getD (t - 2) 0) 17) (rotN ((sched bs t).getD (t - 2) 0) 19)) (shrN ((sched bs t).getD (t - 2) 0) 10))) ?_)) rfl)
      have hb : Nat.blt (sched bs t).length 16 = false := by
        cases hq : Nat.blt (sched bs t).length 16 with
        | true => exact absurd (blt_t hq) (by omega)
        | false => rfl
      unfold nextW
      rw [hb]
      simp only [hl]
  · obtain rfl : t = 64 := by have := ltI_not.1 hc1; omega
    have hS : (pad0 (sched bs 64) 64) = sched bs 64 := by
      unfold pad0; rw [hl]; simp
    simp only [hS]
    refine co_exit ?_
    refine q_seqx (by intro h; cases h) ?_
    refine q_out (by intro h; cases h) ?_
    refine q_blk ?_
    refine q_seq ?_
    refine co_seq ?_
    refine co_region (id := 9) ?_
    refine op_pure rfl rfl ?_
    refine op_pure rfl rfl ?_
    refine op_mem rfl rfl ?_
    refine op_mem rfl rfl ?_
    refine op_mem rfl rfl ?_
    refine op_nil ?_
    refine q_seq ?_
    refine co_seq ?_
    refine co_seq ?_
    refine co_region (id := 10) ?_
    refine op_pure rfl rfl ?_
    refine op_nil ?_
    refine q_seq ?_
    refine co_block ?_
    refine co_loop (fun t : Nat => t ≤ 64) (fun t => [(100, .int .i64 (t : Int)), (8, .ptr 3 0), (4, .ptr 2 0), (0, .ptr 0 0)]) (fun t => [(3, 479, .arr 8 1 (rounds (sched bs 64) s t).l), (2, 536, .arr 64 1 ((sched bs 64).map wd)), (0, 479, .arr 8 1 s.l), (1, ty, c)]) (fun _ => 4) (fun _ => R) (fun t => 64 - t) 0 (Nat.zero_le _) ?_ (fun t ht => ?_)
    · exact ent_sub ⟨rfl, rfl, rfl, rfl, trivial⟩ rfl rfl
    refine co_seq ?_
    refine co_region (id := 11) ?_
    refine op_pure rfl rfl ?_
    refine op_nil ?_
    refine q_seq ?_
    refine co_seq ?_
    refine co_cond rfl (fun hc3 => ?_) (fun hc3 => ?_)
    · have ht1 : t < 64 := by have := ltI_iff.1 hc3; omega
      have hK : getAtW 50 (.arr 64 1 (kW.map wd)) (t * 1) 1 false = some (wd (kW.getD t 0)) := get_arr1 (by rw [Nat.mul_one]; exact map_at (by rw [kW_len]; exact ht1)) rfl
      have hW : getAtW 50 (.arr 64 1 ((sched bs 64).map wd)) (0 + t * 1) 1 false = some (wd ((sched bs 64).getD t 0)) := get_arr1 (by rw [Nat.zero_add, Nat.mul_one]; exact map_at (by omega)) rfl
      refine co_skip ?_
      refine q_seq ?_
      refine co_seq ?_
      refine co_block ?_
      refine co_seq ?_
      refine co_region (id := 12) ?_
      refine op_pure rfl rfl ?_
      refine op_pure rfl rfl ?_
      refine op_nil ?_
      refine q_seq ?_
      refine co_seq ?_
      refine co_flow (id := 13) ?_
      first | refine fl_pure rfl rfl ?_ | refine fl_pure rfl (ix_sl rfl rfl rfl rfl rfl rfl rfl (by omega)) ?_ | refine fl_pure rfl (ix_arr rfl rfl rfl rfl rfl rfl (by omega)) ?_ | refine fl_pure rfl (ix_fz rfl rfl rfl rfl rfl rfl rfl (by first | assumption | (simp; done))) ?_
      refine fl_mem rfl rfl (by first | rfl | kernel_rfl) ?_
      first | refine fl_pure rfl rfl ?_ | refine fl_pure rfl (ix_sl rfl rfl rfl rfl rfl rfl rfl (by omega)) ?_ | refine fl_pure rfl (ix_arr rfl rfl rfl rfl rfl rfl (by omega)) ?_ | refine fl_pure rfl (ix_fz rfl rfl rfl rfl rfl rfl rfl (by first | assumption | (simp; done))) ?_
      refine fl_mem rfl rfl (by first | rfl | kernel_rfl) ?_
      first | refine fl_pure rfl rfl ?_ | refine fl_pure rfl (ix_sl rfl rfl rfl rfl rfl rfl rfl (by omega)) ?_ | refine fl_pure rfl (ix_arr rfl rfl rfl rfl rfl rfl (by omega)) ?_ | refine fl_pure rfl (ix_fz rfl rfl rfl rfl rfl rfl rfl (by first | assumption | (simp; done))) ?_
      refine fl_mem rfl rfl (by first | rfl | kernel_rfl) ?_
      first | refine fl_pure rfl rfl ?_ | refine fl_pure rfl (ix_sl rfl rfl rfl rfl rfl rfl rfl (by omega)) ?_ | refine fl_pure rfl (ix_arr rfl rfl rfl rfl rfl rfl (by omega)) ?_ | refine fl_pure rfl (ix_fz rfl rfl rfl rfl rfl rfl rfl (by first | assumption | (simp; done))) ?_
      refine fl_mem rfl rfl (by first | rfl | kernel_rfl) ?_
      first | refine fl_pure rfl rfl ?_ | refine fl_pure rfl (ix_sl rfl rfl rfl rfl rfl rfl rfl (by omega)) ?_ | refine fl_pure rfl (ix_arr rfl rfl rfl rfl rfl rfl (by omega)) ?_ | refine fl_pure rfl (ix_fz rfl rfl rfl rfl rfl rfl rfl (by first | assumption | (simp; done))) ?_
      refine fl_mem rfl rfl (by first | rfl | kernel_rfl) ?_
      first | refine fl_pure rfl rfl ?_ | refine fl_pure rfl (ix_sl rfl rfl rfl rfl rfl rfl rfl (by omega)) ?_ | refine fl_pure rfl (ix_arr rfl rfl rfl rfl rfl rfl (by omega)) ?_ | refine fl_pure rfl (ix_fz rfl rfl rfl rfl rfl rfl rfl (by first | assumption | (simp; done))) ?_
      refine fl_mem rfl rfl (by first | rfl | kernel_rfl) ?_
      refine fl_pure rfl rfl ?_
      refine fl_pure rfl rfl ?_
      refine fl_pure rfl rfl ?_
      refine fl_pure rfl rfl ?_
      refine fl_pure rfl rfl ?_
      refine fl_pure rfl rfl ?_
      refine fl_nil ?_
      refine q_seq ?_
      refine co_seq ?_
      refine co_flow (id := 14) ?_
      first | refine fl_pure rfl rfl ?_ | refine fl_pure rfl (ix_sl rfl rfl rfl rfl rfl rfl rfl (by omega)) ?_ | refine fl_pure rfl (ix_arr rfl rfl rfl rfl rfl rfl (by omega)) ?_ | refine fl_pure rfl (ix_fz rfl rfl rfl rfl rfl rfl rfl (by first | assumption | (simp; done))) ?_
      refine fl_mem rfl rfl (by first | rfl | kernel_rfl) ?_
      refine fl_pure rfl rfl ?_
      (refine fl_step rfl (step_pcall rfl rfl rfl rfl (turned_s _ (by decide) _ _) rfl ?_); rintro w hp1 nw1 ⟨rfl, rfl, rfl⟩; first | refine ⟨rfl, rfl, ?_⟩ | refine ⟨rfl, ?_⟩)
      refine fl_pure rfl rfl ?_
      (refine fl_step rfl (step_pcall rfl rfl rfl rfl (turned_s _ (by decide) _ _) rfl ?_); rintro w hp1 nw1 ⟨rfl, rfl, rfl⟩; first | refine ⟨rfl, rfl, ?_⟩ | refine ⟨rfl, ?_⟩)
      refine fl_pure rfl rfl ?_
      refine fl_pure rfl rfl ?_
      (refine fl_step rfl (step_pcall rfl rfl rfl rfl (turned_s _ (by decide) _ _) rfl ?_); rintro w hp1 nw1 ⟨rfl, rfl, rfl⟩; first | refine ⟨rfl, rfl, ?_⟩ | refine ⟨rfl, ?_⟩)
      refine fl_pure rfl rfl ?_
      first | refine fl_wrap rfl rfl ⟨by omega, by omega⟩ ?_ | refine fl_pure rfl rfl ?_
      refine fl_pure rfl rfl ?_
      refine fl_pure rfl rfl ?_
      refine fl_pure rfl rfl ?_
      refine fl_pure rfl rfl ?_
      refine fl_pure rfl rfl ?_
      refine fl_pure rfl rfl ?_
      refine fl_pure rfl rfl ?_
      refine fl_pure rfl rfl ?_
      first | refine fl_wrap rfl rfl ⟨by omega, by omega⟩ ?_ | refine fl_pure rfl rfl ?_
      refine fl_pure rfl rfl ?_
      refine fl_pure rfl (ix_fel (i := t) rfl rfl rfl rfl rfl rfl (by omega) rfl hK) ?_
      refine fl_mem rfl rfl (by first | rfl | kernel_rfl) ?_
      first | refine fl_wrap rfl rfl ⟨by omega, by omega⟩ ?_ | refine fl_pure rfl rfl ?_
      refine fl_pure rfl rfl ?_
      refine fl_pure rfl (ix_arr (i := t) rfl rfl rfl rfl rfl rfl (by omega)) ?_
      refine fl_mem rfl (ld_own rfl rfl rfl hW) (by first | rfl | kernel_rfl) ?_
      first | refine fl_wrap rfl rfl ⟨by omega, by omega⟩ ?_ | refine fl_pure rfl rfl ?_
      refine fl_pure rfl rfl ?_
      refine fl_nil ?_
      refine q_seq ?_
      refine co_seq ?_
      refine co_region (id := 15) ?_
      refine op_pure rfl rfl ?_
      (refine op_step rfl (step_pcall rfl rfl rfl rfl (turned_s _ (by decide) _ _) rfl ?_); rintro w hp1 nw1 ⟨rfl, rfl, rfl⟩; first | refine ⟨rfl, rfl, ?_⟩ | refine ⟨rfl, ?_⟩)
      refine op_pure rfl rfl ?_
      (refine op_step rfl (step_pcall rfl rfl rfl rfl (turned_s _ (by decide) _ _) rfl ?_); rintro w hp1 nw1 ⟨rfl, rfl, rfl⟩; first | refine ⟨rfl, rfl, ?_⟩ | refine ⟨rfl, ?_⟩)
      refine op_pure rfl rfl ?_
      refine op_pure rfl rfl ?_
      (refine op_step rfl (step_pcall rfl rfl rfl rfl (turned_s _ (by decide) _ _) rfl ?_); rintro w hp1 nw1 ⟨rfl, rfl, rfl⟩; first | refine ⟨rfl, rfl, ?_⟩ | refine ⟨rfl, ?_⟩)
      refine op_pure rfl rfl ?_
      refine op_pure rfl rfl ?_
      refine op_pure rfl rfl ?_
      refine op_pure rfl rfl ?_
      refine op_pure rfl rfl ?_
      refine op_pure rfl rfl ?_
      refine op_pure rfl rfl ?_
      refine op_pure rfl rfl ?_
      refine op_pure rfl rfl ?_
      refine op_pure rfl rfl ?_
      refine op_pure rfl rfl ?_
      refine op_pure rfl rfl ?_
      first | refine op_wrap rfl rfl ⟨by omega, by omega⟩ ?_ | refine op_pure rfl rfl ?_
      refine op_pure rfl rfl ?_
      refine op_nil ?_
      refine q_seq ?_
      refine co_region (id := 16) ?_
      refine op_pure rfl rfl ?_
      refine op_pure rfl rfl ?_
      first | refine op_wrap rfl rfl ⟨by omega, by omega⟩ ?_ | refine op_pure rfl rfl ?_
      refine op_pure rfl rfl ?_
      refine op_pure rfl rfl ?_
      refine op_pure rfl rfl ?_
      first | refine op_pure rfl rfl ?_ | refine op_pure rfl (ix_sl rfl rfl rfl rfl rfl rfl rfl (by omega)) ?_ | refine op_pure rfl (ix_arr rfl rfl rfl rfl rfl rfl (by omega)) ?_ | refine op_pure rfl (ix_fz rfl rfl rfl rfl rfl rfl rfl (by first | assumption | (simp; done))) ?_
      refine op_mem rfl rfl ?_
      refine op_pure rfl rfl ?_
      first | refine op_wrap rfl rfl ⟨by omega, by omega⟩ ?_ | refine op_pure rfl rfl ?_
      refine op_pure rfl rfl ?_
      refine op_pure rfl rfl ?_
      refine op_pure rfl rfl ?_
      refine op_pure rfl rfl ?_
      refine op_mem rfl rfl ?_
      refine op_nil ?_
      refine q_blkn (by intro i h; cases h) ?_
      refine q_seq ?_
      refine co_region (id := 17) ?_
      first | refine op_wrap rfl rfl ⟨by omega, by omega⟩ ?_ | refine op_pure rfl rfl ?_
      refine op_pure rfl rfl ?_
      refine op_nil ?_
      refine q_again (t + 1) (by omega) (by omega) (ent_sub ⟨rfl, rfl, rfl, rfl, trivial⟩ rfl rfl)
    · obtain rfl : t = 64 := by have := ltI_not.1 hc3; omega
      refine co_exit ?_
      refine q_seqx (by intro h; cases h) ?_
      refine q_out (by intro h; cases h) ?_
      refine q_blk ?_
      refine q_seq ?_
      refine co_seq ?_
      refine co_region (id := 18) ?_
      refine op_pure rfl rfl ?_
      refine op_nil ?_
      refine q_seq ?_
      refine co_block ?_
      refine co_loop (fun i : Nat => i ≤ 8) (fun i => [(178, .int .i64 (i : Int)), (8, .ptr 3 0), (0, .ptr 0 0)]) (fun i => [(3, 479, .arr 8 1 (rounds (sched bs 64) s 64).l), (0, 479, .arr 8 1 (mix8 s (rounds (sched bs 64) s 64) i)), (1, ty, c)]) (fun _ => 4) (fun _ => R) (fun i => 8 - i) 0 (Nat.zero_le _) ?_ (fun i hi => ?_)
      · exact (ent_del (b := 2)).trans (ent_sub ⟨rfl, rfl, rfl, trivial⟩ rfl rfl)
      refine co_seq ?_
      refine co_region (id := 19) ?_
      refine op_pure rfl rfl ?_
      refine op_nil ?_
      refine q_seq ?_
      refine co_seq ?_
      refine co_cond rfl (fun hc4 => ?_) (fun hc4 => ?_)
      · have hi1 : i < 8 := by have := ltI_iff.1 hc4; omega
        have hq : i = 0 ∨ i = 1 ∨ i = 2 ∨ i = 3 ∨ i = 4 ∨ i = 5 ∨ i = 6 ∨ i = 7 := by omega
        skip
        rcases hq with rfl | rfl | rfl | rfl | rfl | rfl | rfl | rfl
        · skip
          refine co_skip ?_
          refine q_seq ?_
          refine co_seq ?_
          refine co_block ?_
          refine co_seq ?_
          refine co_region (id := 20) ?_
          refine op_pure rfl rfl ?_
          refine op_pure rfl rfl ?_
          refine op_nil ?_
          refine q_seq ?_
          refine co_flow (id := 21) ?_
          refine fl_pure rfl rfl ?_
          refine fl_pure rfl rfl ?_
          refine fl_pure rfl rfl ?_
          first | refine fl_pure rfl rfl ?_ | refine fl_pure rfl (ix_sl rfl rfl rfl rfl rfl rfl rfl (by omega)) ?_ | refine fl_pure rfl (ix_arr rfl rfl rfl rfl rfl rfl (by omega)) ?_ | refine fl_pure rfl (ix_fz rfl rfl rfl rfl rfl rfl rfl (by first | assumption | (simp; done))) ?_
          refine fl_mem rfl rfl (by first | rfl | kernel_rfl) ?_
          refine fl_pure rfl rfl ?_
          first | refine fl_pure rfl rfl ?_ | refine fl_pure rfl (ix_sl rfl rfl rfl rfl rfl rfl rfl (by omega)) ?_ | refine fl_pure rfl (ix_arr rfl rfl rfl rfl rfl rfl (by omega)) ?_ | refine fl_pure rfl (ix_fz rfl rfl rfl rfl rfl rfl rfl (by first | assumption | (simp; done))) ?_
          refine fl_mem rfl rfl (by first | rfl | kernel_rfl) ?_
          first | refine fl_wrap rfl rfl ⟨by omega, by omega⟩ ?_ | refine fl_pure rfl rfl ?_
          refine fl_pure rfl rfl ?_
          first | refine fl_pure rfl rfl ?_ | refine fl_pure rfl (ix_sl rfl rfl rfl rfl rfl rfl rfl (by omega)) ?_ | refine fl_pure rfl (ix_arr rfl rfl rfl rfl rfl rfl (by omega)) ?_ | refine fl_pure rfl (ix_fz rfl rfl rfl rfl rfl rfl rfl (by first | assumption | (simp; done))) ?_
          refine fl_mem rfl rfl (by first | rfl | kernel_rfl) ?_
          refine fl_nil ?_
          refine q_blkn (by intro i h; cases h) ?_
          refine q_seq ?_
          refine co_region (id := 22) ?_
          first | refine op_wrap rfl rfl ⟨by omega, by omega⟩ ?_ | refine op_pure rfl rfl ?_
          refine op_pure rfl rfl ?_
          refine op_nil ?_
          exact q_again 1 (by decide) (by decide) (ent_sub ⟨rfl, rfl, rfl, trivial⟩ rfl rfl)
        · skip
          refine co_skip ?_
          refine q_seq ?_
          refine co_seq ?_
          refine co_block ?_
          refine co_seq ?_
          refine co_region (id := 20) ?_
          refine op_pure rfl rfl ?_
          refine op_pure rfl rfl ?_
          refine op_nil ?_
          refine q_seq ?_
          refine co_flow (id := 21) ?_
          refine fl_pure rfl rfl ?_
          refine fl_pure rfl rfl ?_
          refine fl_pure rfl rfl ?_
          first | refine fl_pure rfl rfl ?_ | refine fl_pure rfl (ix_sl rfl rfl rfl rfl rfl rfl rfl (by omega)) ?_ | refine fl_pure rfl (ix_arr rfl rfl rfl rfl rfl rfl (by omega)) ?_ | refine fl_pure rfl (ix_fz rfl rfl rfl rfl rfl rfl rfl (by first | assumption | (simp; done))) ?_
          refine fl_mem rfl rfl (by first | rfl | kernel_rfl) ?_
          refine fl_pure rfl rfl ?_
          first | refine fl_pure rfl rfl ?_ | refine fl_pure rfl (ix_sl rfl rfl rfl rfl rfl rfl rfl (by omega)) ?_ | refine fl_pure rfl (ix_arr rfl rfl rfl rfl rfl rfl (by omega)) ?_ | refine fl_pure rfl (ix_fz rfl rfl rfl rfl rfl rfl rfl (by first | assumption | (simp; done))) ?_
          refine fl_mem rfl rfl (by first | rfl | kernel_rfl) ?_
          first | refine fl_wrap rfl rfl ⟨by omega, by omega⟩ ?_ | refine fl_pure rfl rfl ?_
          refine fl_pure rfl rfl ?_
          first | refine fl_pure rfl rfl ?_ | refine fl_pure rfl (ix_sl rfl rfl rfl rfl rfl rfl rfl (by omega)) ?_ | refine fl_pure rfl (ix_arr rfl rfl rfl rfl rfl rfl (by omega)) ?_ | refine fl_pure rfl (ix_fz rfl rfl rfl rfl rfl rfl rfl (by first | assumption | (simp; done))) ?_
          refine fl_mem rfl rfl (by first | rfl | kernel_rfl) ?_
          refine fl_nil ?_
          refine q_blkn (by intro i h; cases h) ?_
          refine q_seq ?_
          refine co_region (id := 22) ?_
          first | refine op_wrap rfl rfl ⟨by omega, by omega⟩ ?_ | refine op_pure rfl rfl ?_
          refine op_pure rfl rfl ?_
          refine op_nil ?_
          exact q_again 2 (by decide) (by decide) (ent_sub ⟨rfl, rfl, rfl, trivial⟩ rfl rfl)
        · skip
          refine co_skip ?_
          refine q_seq ?_
          refine co_seq ?_
          refine co_block ?_
          refine co_seq ?_
          refine co_region (id := 20) ?_
          refine op_pure rfl rfl ?_
          refine op_pure rfl rfl ?_
          refine op_nil ?_
          refine q_seq ?_
          refine co_flow (id := 21) ?_
          refine fl_pure rfl rfl ?_
          refine fl_pure rfl rfl ?_
          refine fl_pure rfl rfl ?_
          first | refine fl_pure rfl rfl ?_ | refine fl_pure rfl (ix_sl rfl rfl rfl rfl rfl rfl rfl (by omega)) ?_ | refine fl_pure rfl (ix_arr rfl rfl rfl rfl rfl rfl (by omega)) ?_ | refine fl_pure rfl (ix_fz rfl rfl rfl rfl rfl rfl rfl (by first | assumption | (simp; done))) ?_
          refine fl_mem rfl rfl (by first | rfl | kernel_rfl) ?_
          refine fl_pure rfl rfl ?_
          first | refine fl_pure rfl rfl ?_ | refine fl_pure rfl (ix_sl rfl rfl rfl rfl rfl rfl rfl (by omega)) ?_ | refine fl_pure rfl (ix_arr rfl rfl rfl rfl rfl rfl (by omega)) ?_ | refine fl_pure rfl (ix_fz rfl rfl rfl rfl rfl rfl rfl (by first | assumption | (simp; done))) ?_
          refine fl_mem rfl rfl (by first | rfl | kernel_rfl) ?_
          first | refine fl_wrap rfl rfl ⟨by omega, by omega⟩ ?_ | refine fl_pure rfl rfl ?_
          refine fl_pure rfl rfl ?_
          first | refine fl_pure rfl rfl ?_ | refine fl_pure rfl (ix_sl rfl rfl rfl rfl rfl rfl rfl (by omega)) ?_ | refine fl_pure rfl (ix_arr rfl rfl rfl rfl rfl rfl (by omega)) ?_ | refine fl_pure rfl (ix_fz rfl rfl rfl rfl rfl rfl rfl (by first | assumption | (simp; done))) ?_
          refine fl_mem rfl rfl (by first | rfl | kernel_rfl) ?_
          refine fl_nil ?_
          refine q_blkn (by intro i h; cases h) ?_
          refine q_seq ?_
          refine co_region (id := 22) ?_
          first | refine op_wrap rfl rfl ⟨by omega, by omega⟩ ?_ | refine op_pure rfl rfl ?_
          refine op_pure rfl rfl ?_
          refine op_nil ?_
          exact q_again 3 (by decide) (by decide) (ent_sub ⟨rfl, rfl, rfl, trivial⟩ rfl rfl)
        · skip
          refine co_skip ?_
          refine q_seq ?_
          refine co_seq ?_
          refine co_block ?_
          refine co_seq ?_
          refine co_region (id := 20) ?_
          refine op_pure rfl rfl ?_
          refine op_pure rfl rfl ?_
          refine op_nil ?_
          refine q_seq ?_
          refine co_flow (id := 21) ?_
          refine fl_pure rfl rfl ?_
          refine fl_pure rfl rfl ?_
          refine fl_pure rfl rfl ?_
          first | refine fl_pure rfl rfl ?_ | refine fl_pure rfl (ix_sl rfl rfl rfl rfl rfl rfl rfl (by omega)) ?_ | refine fl_pure rfl (ix_arr rfl rfl rfl rfl rfl rfl (by omega)) ?_ | refine fl_pure rfl (ix_fz rfl rfl rfl rfl rfl rfl rfl (by first | assumption | (simp; done))) ?_
          refine fl_mem rfl rfl (by first | rfl | kernel_rfl) ?_
          refine fl_pure rfl rfl ?_
          first | refine fl_pure rfl rfl ?_ | refine fl_pure rfl (ix_sl rfl rfl rfl rfl rfl rfl rfl (by omega)) ?_ | refine fl_pure rfl (ix_arr rfl rfl rfl rfl rfl rfl (by omega)) ?_ | refine fl_pure rfl (ix_fz rfl rfl rfl rfl rfl rfl rfl (by first | assumption | (simp; done))) ?_
          refine fl_mem rfl rfl (by first | rfl | kernel_rfl) ?_
          first | refine fl_wrap rfl rfl ⟨by omega, by omega⟩ ?_ | refine fl_pure rfl rfl ?_
          refine fl_pure rfl rfl ?_
          first | refine fl_pure rfl rfl ?_ | refine fl_pure rfl (ix_sl rfl rfl rfl rfl rfl rfl rfl (by omega)) ?_ | refine fl_pure rfl (ix_arr rfl rfl rfl rfl rfl rfl (by omega)) ?_ | refine fl_pure rfl (ix_fz rfl rfl rfl rfl rfl rfl rfl (by first | assumption | (simp; done))) ?_
          refine fl_mem rfl rfl (by first | rfl | kernel_rfl) ?_
          refine fl_nil ?_
          refine q_blkn (by intro i h; cases h) ?_
          refine q_seq ?_
          refine co_region (id := 22) ?_
          first | refine op_wrap rfl rfl ⟨by omega, by omega⟩ ?_ | refine op_pure rfl rfl ?_
          refine op_pure rfl rfl ?_
          refine op_nil ?_
          exact q_again 4 (by decide) (by decide) (ent_sub ⟨rfl, rfl, rfl, trivial⟩ rfl rfl)
        · skip
          refine co_skip ?_
          refine q_seq ?_
          refine co_seq ?_
          refine co_block ?_
          refine co_seq ?_
          refine co_region (id := 20) ?_
          refine op_pure rfl rfl ?_
          refine op_pure rfl rfl ?_
          refine op_nil ?_
          refine q_seq ?_
          refine co_flow (id := 21) ?_
          refine fl_pure rfl rfl ?_
          refine fl_pure rfl rfl ?_
          refine fl_pure rfl rfl ?_
          first | refine fl_pure rfl rfl ?_ | refine fl_pure rfl (ix_sl rfl rfl rfl rfl rfl rfl rfl (by omega)) ?_ | refine fl_pure rfl (ix_arr rfl rfl rfl rfl rfl rfl (by omega)) ?_ | refine fl_pure rfl (ix_fz rfl rfl rfl rfl rfl rfl rfl (by first | assumption | (simp; done))) ?_
          refine fl_mem rfl rfl (by first | rfl | kernel_rfl) ?_
          refine fl_pure rfl rfl ?_
          first | refine fl_pure rfl rfl ?_ | refine fl_pure rfl (ix_sl rfl rfl rfl rfl rfl rfl rfl (by omega)) ?_ | refine fl_pure rfl (ix_arr rfl rfl rfl rfl rfl rfl (by omega)) ?_ | refine fl_pure rfl (ix_fz rfl rfl rfl rfl rfl rfl rfl (by first | assumption | (simp; done))) ?_
          refine fl_mem rfl rfl (by first | rfl | kernel_rfl) ?_
          first | refine fl_wrap rfl rfl ⟨by omega, by omega⟩ ?_ | refine fl_pure rfl rfl ?_
          refine fl_pure rfl rfl ?_
          first | refine fl_pure rfl rfl ?_ | refine fl_pure rfl (ix_sl rfl rfl rfl rfl rfl rfl rfl (by omega)) ?_ | refine fl_pure rfl (ix_arr rfl rfl rfl rfl rfl rfl (by omega)) ?_ | refine fl_pure rfl (ix_fz rfl rfl rfl rfl rfl rfl rfl (by first | assumption | (simp; done))) ?_
          refine fl_mem rfl rfl (by first | rfl | kernel_rfl) ?_
          refine fl_nil ?_
          refine q_blkn (by intro i h; cases h) ?_
          refine q_seq ?_
          refine co_region (id := 22) ?_
          first | refine op_wrap rfl rfl ⟨by omega, by omega⟩ ?_ | refine op_pure rfl rfl ?_
          refine op_pure rfl rfl ?_
          refine op_nil ?_
          exact q_again 5 (by decide) (by decide) (ent_sub ⟨rfl, rfl, rfl, trivial⟩ rfl rfl)
        · skip
          refine co_skip ?_
          refine q_seq ?_
          refine co_seq ?_
          refine co_block ?_
          refine co_seq ?_
          refine co_region (id := 20) ?_
          refine op_pure rfl rfl ?_
          refine op_pure rfl rfl ?_
          refine op_nil ?_
          refine q_seq ?_
          refine co_flow (id := 21) ?_
          refine fl_pure rfl rfl ?_
          refine fl_pure rfl rfl ?_
          refine fl_pure rfl rfl ?_
          first | refine fl_pure rfl rfl ?_ | refine fl_pure rfl (ix_sl rfl rfl rfl rfl rfl rfl rfl (by omega)) ?_ | refine fl_pure rfl (ix_arr rfl rfl rfl rfl rfl rfl (by omega)) ?_ | refine fl_pure rfl (ix_fz rfl rfl rfl rfl rfl rfl rfl (by first | assumption | (simp; done))) ?_
          refine fl_mem rfl rfl (by first | rfl | kernel_rfl) ?_
          refine fl_pure rfl rfl ?_
          first | refine fl_pure rfl rfl ?_ | refine fl_pure rfl (ix_sl rfl rfl rfl rfl rfl rfl rfl (by omega)) ?_ | refine fl_pure rfl (ix_arr rfl rfl rfl rfl rfl rfl (by omega)) ?_ | refine fl_pure rfl (ix_fz rfl rfl rfl rfl rfl rfl rfl (by first | assumption | (simp; done))) ?_
          refine fl_mem rfl rfl (by first | rfl | kernel_rfl) ?_
          first | refine fl_wrap rfl rfl ⟨by omega, by omega⟩ ?_ | refine fl_pure rfl rfl ?_
          refine fl_pure rfl rfl ?_
          first | refine fl_pure rfl rfl ?_ | refine fl_pure rfl (ix_sl rfl rfl rfl rfl rfl rfl rfl (by omega)) ?_ | refine fl_pure rfl (ix_arr rfl rfl rfl rfl rfl rfl (by omega)) ?_ | refine fl_pure rfl (ix_fz rfl rfl rfl rfl rfl rfl rfl (by first | assumption | (simp; done))) ?_
          refine fl_mem rfl rfl (by first | rfl | kernel_rfl) ?_
          refine fl_nil ?_
          refine q_blkn (by intro i h; cases h) ?_
          refine q_seq ?_
          refine co_region (id := 22) ?_
          first | refine op_wrap rfl rfl ⟨by omega, by omega⟩ ?_ | refine op_pure rfl rfl ?_
          refine op_pure rfl rfl ?_
          refine op_nil ?_
          exact q_again 6 (by decide) (by decide) (ent_sub ⟨rfl, rfl, rfl, trivial⟩ rfl rfl)
        · skip
          refine co_skip ?_
          refine q_seq ?_
          refine co_seq ?_
          refine co_block ?_
          refine co_seq ?_
          refine co_region (id := 20) ?_
          refine op_pure rfl rfl ?_
          refine op_pure rfl rfl ?_
          refine op_nil ?_
          refine q_seq ?_
          refine co_flow (id := 21) ?_
          refine fl_pure rfl rfl ?_
          refine fl_pure rfl rfl ?_
          refine fl_pure rfl rfl ?_
          first | refine fl_pure rfl rfl ?_ | refine fl_pure rfl (ix_sl rfl rfl rfl rfl rfl rfl rfl (by omega)) ?_ | refine fl_pure rfl (ix_arr rfl rfl rfl rfl rfl rfl (by omega)) ?_ | refine fl_pure rfl (ix_fz rfl rfl rfl rfl rfl rfl rfl (by first | assumption | (simp; done))) ?_
          refine fl_mem rfl rfl (by first | rfl | kernel_rfl) ?_
          refine fl_pure rfl rfl ?_
          first | refine fl_pure rfl rfl ?_ | refine fl_pure rfl (ix_sl rfl rfl rfl rfl rfl rfl rfl (by omega)) ?_ | refine fl_pure rfl (ix_arr rfl rfl rfl rfl rfl rfl (by omega)) ?_ | refine fl_pure rfl (ix_fz rfl rfl rfl rfl rfl rfl rfl (by first | assumption | (simp; done))) ?_
          refine fl_mem rfl rfl (by first | rfl | kernel_rfl) ?_
          first | refine fl_wrap rfl rfl ⟨by omega, by omega⟩ ?_ | refine fl_pure rfl rfl ?_
          refine fl_pure rfl rfl ?_
          first | refine fl_pure rfl rfl ?_ | refine fl_pure rfl (ix_sl rfl rfl rfl rfl rfl rfl rfl (by omega)) ?_ | refine fl_pure rfl (ix_arr rfl rfl rfl rfl rfl rfl (by omega)) ?_ | refine fl_pure rfl (ix_fz rfl rfl rfl rfl rfl rfl rfl (by first | assumption | (simp; done))) ?_
          refine fl_mem rfl rfl (by first | rfl | kernel_rfl) ?_
          refine fl_nil ?_
          refine q_blkn (by intro i h; cases h) ?_
          refine q_seq ?_
          refine co_region (id := 22) ?_
          first | refine op_wrap rfl rfl ⟨by omega, by omega⟩ ?_ | refine op_pure rfl rfl ?_
          refine op_pure rfl rfl ?_
          refine op_nil ?_
          exact q_again 7 (by decide) (by decide) (ent_sub ⟨rfl, rfl, rfl, trivial⟩ rfl rfl)
        · skip
          refine co_skip ?_
          refine q_seq ?_
          refine co_seq ?_
          refine co_block ?_
          refine co_seq ?_
          refine co_region (id := 20) ?_
          refine op_pure rfl rfl ?_
          refine op_pure rfl rfl ?_
          refine op_nil ?_
          refine q_seq ?_
          refine co_flow (id := 21) ?_
          refine fl_pure rfl rfl ?_
          refine fl_pure rfl rfl ?_
          refine fl_pure rfl rfl ?_
          first | refine fl_pure rfl rfl ?_ | refine fl_pure rfl (ix_sl rfl rfl rfl rfl rfl rfl rfl (by omega)) ?_ | refine fl_pure rfl (ix_arr rfl rfl rfl rfl rfl rfl (by omega)) ?_ | refine fl_pure rfl (ix_fz rfl rfl rfl rfl rfl rfl rfl (by first | assumption | (simp; done))) ?_
          refine fl_mem rfl rfl (by first | rfl | kernel_rfl) ?_
          refine fl_pure rfl rfl ?_
          first | refine fl_pure rfl rfl ?_ | refine fl_pure rfl (ix_sl rfl rfl rfl rfl rfl rfl rfl (by omega)) ?_ | refine fl_pure rfl (ix_arr rfl rfl rfl rfl rfl rfl (by omega)) ?_ | refine fl_pure rfl (ix_fz rfl rfl rfl rfl rfl rfl rfl (by first | assumption | (simp; done))) ?_
          refine fl_mem rfl rfl (by first | rfl | kernel_rfl) ?_
          first | refine fl_wrap rfl rfl ⟨by omega, by omega⟩ ?_ | refine fl_pure rfl rfl ?_
          refine fl_pure rfl rfl ?_
          first | refine fl_pure rfl rfl ?_ | refine fl_pure rfl (ix_sl rfl rfl rfl rfl rfl rfl rfl (by omega)) ?_ | refine fl_pure rfl (ix_arr rfl rfl rfl rfl rfl rfl (by omega)) ?_ | refine fl_pure rfl (ix_fz rfl rfl rfl rfl rfl rfl rfl (by first | assumption | (simp; done))) ?_
          refine fl_mem rfl rfl (by first | rfl | kernel_rfl) ?_
          refine fl_nil ?_
          refine q_blkn (by intro i h; cases h) ?_
          refine q_seq ?_
          refine co_region (id := 22) ?_
          first | refine op_wrap rfl rfl ⟨by omega, by omega⟩ ?_ | refine op_pure rfl rfl ?_
          refine op_pure rfl rfl ?_
          refine op_nil ?_
          exact q_again 8 (by decide) (by decide) (ent_sub ⟨rfl, rfl, rfl, trivial⟩ rfl rfl)
      · obtain rfl : i = 8 := by have := ltI_not.1 hc4; omega
        refine co_exit ?_
        refine q_seqx (by intro h; cases h) ?_
        refine q_out (by intro h; cases h) ?_
        refine q_blk ?_
        refine fin (.inl rfl) (ent_low (fr2 := []) (hp2 := [(0, 479, .arr 8 1 (blockN bs s).l), (1, ty, c)]) (nw2 := 2) (by omega) (by omega) trivial rfl (subH_get ⟨⟨by omega, rfl, rfl⟩, ⟨by omega, rfl, hc⟩, trivial⟩) (by simp)) rfl ⟨rfl, rfl, rfl, rfl⟩
end Go.Proofs.YtmlemnbhjbaedaaGreatDoor

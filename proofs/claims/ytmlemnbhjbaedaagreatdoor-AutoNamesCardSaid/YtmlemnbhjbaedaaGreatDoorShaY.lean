/-
  SHA-256 of the program: the digest of all parts.
-/
import Derived.Test.YtmlemnbhjbaedaaGreatDoorShaX
namespace Go.Proofs.YtmlemnbhjbaedaaGreatDoor
open Go.RowKit
set_option linter.unusedSimpArgs false
set_option linter.unusedVariables false
attribute [local irreducible] CoW OpW FlW Step Spec
/-! ### what it reckons -/
noncomputable def atL (r : List Nat) (i : Nat) : Nat := r.getD i 0
/-- whole blocks are taken -/
noncomputable def eat : Nat → S8 → List Nat → S8 × List Nat
  | 0, s, r => (s, r)
  | n + 1, s, r => match Nat.ble 64 r.length with
    | true => eat n (blockN (atL r) s) (r.drop 64)
    | false => (s, r)
theorem eat_less : ∀ (n : Nat) (s : S8) (r : List Nat), r.length < 64 → eat n s r = (s, r)
  | 0, _, _, _ => rfl
  | n + 1, s, r, h => by
    have : Nat.ble 64 r.length = false := by
      cases hq : Nat.ble 64 r.length with
      | true => have := Nat.le_of_ble_eq_true hq; omega
      | false => rfl
    simp only [eat, this]
theorem eat_more {n : Nat} {s : S8} {r : List Nat} (h : 64 ≤ r.length) : eat (n + 1) s r = eat n (blockN (atL r) s) (r.drop 64) := by
  simp only [eat, Nat.ble_eq_true_of_le h]
/-- enough is enough -/
theorem eat_fuel : ∀ (n m : Nat) (s : S8) (r : List Nat), r.length ≤ n → r.length ≤ m → eat n s r = eat m s r
  | 0, m, s, r, h, _ => by rw [eat_less m s r (by omega)]; rfl
  | n + 1, 0, s, r, _, h => by rw [eat_less _ s r (by omega)]; rfl
  | n + 1, m + 1, s, r, h1, h2 => by
    by_cases h : 64 ≤ r.length
    · rw [eat_more h, eat_more h]
      exact eat_fuel n m _ _ (by simp; omega) (by simp; omega)
    · rw [eat_less _ s r (by omega), eat_less _ s r (by omega)]
noncomputable def eats (s : S8) (r : List Nat) : S8 × List Nat := eat r.length s r
theorem eats_more {s : S8} {r : List Nat} (h : 64 ≤ r.length) : eats s r = eats (blockN (atL r) s) (r.drop 64) := by
  unfold eats
  obtain ⟨n, hn⟩ : ∃ n, r.length = n + 1 := ⟨r.length - 1, by omega⟩
  rw [hn, eat_more h]
  exact eat_fuel _ _ _ _ (by simp; omega) (Nat.le_refl _)
noncomputable def absorb (a : S8 × List Nat) (p : List Nat) : S8 × List Nat := eats a.1 (a.2 ++ p)
noncomputable def s0 : S8 := ⟨1779033703, 3144134277, 1013904242, 2773480762, 1359893119, 2600822924, 528734635, 1541459225⟩
/-- noughts, up to 56 behind whole blocks -/
noncomputable def padZ : Nat → List Nat → List Nat
  | 0, r => r
  | n + 1, r => match Nat.beq (r.length % 64) 56 with
    | true => r
    | false => padZ n (r ++ [0])
noncomputable def len8 (many : Nat) : List Nat := [56, 48, 40, 32, 24, 16, 8, 0].map fun i => Nat.shiftRight (8 * many % 18446744073709551616) i % 256
noncomputable def eatAll : Nat → S8 → List Nat → S8
  | 0, s, _ => s
  | n + 1, s, r => match Nat.ble 1 r.length with
    | true => eatAll n (blockN (atL r) s) (r.drop 64)
    | false => s
theorem eatAll_nil : ∀ (n : Nat) (s : S8), eatAll n s [] = s
  | 0, _ => rfl
  | n + 1, s => rfl
theorem eatAll_more {n : Nat} {s : S8} {r : List Nat} (h : 1 ≤ r.length) : eatAll (n + 1) s r = eatAll n (blockN (atL r) s) (r.drop 64) := by
  simp only [eatAll, Nat.ble_eq_true_of_le h]
theorem eatAll_fuel : ∀ (n m : Nat) (s : S8) (r : List Nat), r.length ≤ n → r.length ≤ m → eatAll n s r = eatAll m s r
  | 0, m, s, r, h, _ => by
    obtain rfl : r = [] := List.length_eq_zero_iff.1 (by omega)
    rw [eatAll_nil, eatAll_nil]
  | n + 1, 0, s, r, _, h => by
    obtain rfl : r = [] := List.length_eq_zero_iff.1 (by omega)
    rw [eatAll_nil, eatAll_nil]
  | n + 1, m + 1, s, r, h1, h2 => by
    by_cases h : 1 ≤ r.length
    · rw [eatAll_more h, eatAll_more h]
      exact eatAll_fuel n m _ _ (by simp; omega) (by simp; omega)
    · obtain rfl : r = [] := List.length_eq_zero_iff.1 (by omega)
      rw [eatAll_nil, eatAll_nil]
theorem eatAll_step {s : S8} {r : List Nat} (h : 1 ≤ r.length) : eatAll r.length s r = eatAll (r.drop 64).length (blockN (atL r) s) (r.drop 64) := by
  obtain ⟨n, hn⟩ : ∃ n, r.length = n + 1 := ⟨r.length - 1, by omega⟩
  rw [hn, eatAll_more h]
  exact eatAll_fuel _ _ _ _ (by simp; omega) (Nat.le_refl _)
noncomputable def S8.get (s : S8) : Nat → Nat
  | 0 => s.a
  | 1 => s.b
  | 2 => s.c
  | 3 => s.d
  | 4 => s.e
  | 5 => s.f
  | 6 => s.g
  | _ => s.h
noncomputable def digN (s : S8) : List Nat := (List.range 32).map fun i => Nat.shiftRight (s.get (i / 4)) (24 - 8 * (i % 4)) % 256
noncomputable def total (ps : List (List Nat)) : Nat := (ps.map List.length).foldr (· + ·) 0
noncomputable def shaN (ps : List (List Nat)) : List Nat :=
  let a := ps.foldl absorb (s0, [])
  let r := padZ 64 (a.2 ++ [128]) ++ len8 (total ps)
  digN (eatAll r.length a.1 r)
/-! ### what is left, as a slice -/
inductive Rst where
  | nil
  | sl (all : List Nat) (base off : Nat)
noncomputable def Rst.w : Rst → W
  | .nil => .nils
  | .sl all base off => .sl 2 base off (all.length - off) 1 none
noncomputable def Rst.hp : Rst → HpW
  | .nil => []
  | .sl all _ _ => [(2, 5, .arr all.length 1 (bN all))]
noncomputable def Rst.r : Rst → List Nat
  | .nil => []
  | .sl all _ off => all.drop off
noncomputable def Rst.ok : Rst → Prop
  | .nil => True
  | .sl all _ off => off ≤ all.length ∧ all.length < 4294967296
noncomputable def Rst.nw : Rst → Nat
  | .nil => 2
  | .sl _ _ _ => 3
noncomputable def hpS (x : Rst) (d : W) (s : S8) : HpW := x.hp ++ [(1, 479, .arr 8 1 s.l), (0, 23, d)]
noncomputable def zero32 : W := .arr 32 1 (List.replicate 32 (.int .u8 0))
noncomputable def partW (p : List Nat × Bool) : W := .fz (bN p.1) 1 p.2
theorem hpS_get1 (r : Rst) (d : W) (s : S8) : hget (hpS r d s) 1 = some (479, .arr 8 1 s.l) := by cases r <;> rfl
theorem hpS_get0 (r : Rst) (d : W) (s : S8) : hget (hpS r d s) 0 = some (23, d) := by cases r <;> rfl
/-- some bytes behind what is left -/
theorem app_r (r : Rst) (hr : r.ok) (d : W) (s : S8) (p : List Nat) (f : Bool) (hp : p.length < 2147483648) (h64 : r.r.length < 64) : ∃ w hp' nw ev, appW cfg (hpS r d s) r.nw 69 69 r.w (.fz (bN p) 1 f) = some (w, hp', nw, ev) ∧
    ∃ r' : Rst, r'.ok ∧ r'.r = r.r ++ p ∧ ((w = r'.w ∧ hp' = hpS r' d s ∧ nw = r'.nw) ∨ ∃ all, r' = .sl all 0 0 ∧ w = .sl 3 0 0 all.length 1 none ∧ hp' = [(3, 5, .arr all.length 1 (bN all)), (1, 479, .arr 8 1 s.l), (0, 23, d)] ∧ nw = 4) := by
  cases r with
  | nil => cases p with
    | nil => exact ⟨_, _, _, _, rfl, .nil, trivial, rfl, .inl ⟨rfl, rfl, rfl⟩⟩
    | cons a l =>
      have hl : (bN (a :: l)).length = l.length + 1 := by rw [bN_len]; rfl
      have hlt : l.length + 1 < 2147483648 := hp
      have hbl : (bN (a :: l)).length * 1 ≤ 140737488355328 := by omega
      refine ⟨_, _, _, _, app_nil (k := ti5) rfl rfl rfl rfl rfl (by simp [bN]) hbl (by omega), .sl (a :: l) 0 0, ⟨Nat.zero_le _, by show l.length + 1 < _; omega⟩, rfl, .inl ⟨?_, ?_, rfl⟩⟩
      · rw [bN_len]; rfl
      · rw [bN_len, show (ti5).size = 1 from rfl, Nat.mul_one]; rfl
  | sl all base off =>
    obtain ⟨h1, h2⟩ := hr
    cases p with
    | nil => exact ⟨_, _, _, _, rfl, .sl all base off, ⟨h1, h2⟩, by simp, .inl ⟨rfl, rfl, rfl⟩⟩
    | cons a l =>
      have hl : (bN (a :: l)).length = l.length + 1 := by rw [bN_len]; rfl
      have hlt : l.length + 1 < 2147483648 := hp
      have hbl : (all.length - off + (bN (a :: l)).length) * 1 ≤ 140737488355328 := by omega
      have hdt : ((bN all).drop off).take (all.length - off) = bN (all.drop off) := by
        rw [List.take_of_length_le (by simp [bN_len])]; simp [bN, List.map_drop]
      refine ⟨_, _, _, _, app_sl (k := ti5) (v := .arr all.length 1 (bN all)) (off := off) rfl rfl rfl rfl rfl (by simp [bN]) hbl (by omega) rfl ?_ rfl (sub_arr1 (by omega)), .sl (all.drop off ++ a :: l) 0 0, ⟨Nat.zero_le _, ?_⟩, rfl, .inr ⟨_, rfl, ?_, ?_, rfl⟩⟩
      · show all.length < off + (all.length - off + (bN (a :: l)).length) * 1
        omega
      · simp only [Rst.r, List.length_drop] at h64; simp only [List.length_append, List.length_drop, List.length_cons]; omega
      · simp only [hl, List.length_append, List.length_drop, List.length_cons]; rfl
      · rw [hdt, hl]
        simp only [List.length_append, List.length_drop, List.length_cons, show (ti5).size = 1 from rfl, Nat.mul_one]
        rw [show bN (all.drop off) ++ bN (a :: l) = bN (all.drop off ++ a :: l) by simp [bN]]
        rfl
theorem padZ_spec : ∀ (n j : Nat) (r : List Nat), (∀ i, i < j → (r.length + i) % 64 ≠ 56) → (r.length + j) % 64 = 56 → j ≤ n → padZ n r = r ++ List.replicate j 0
  | 0, j, r, _, _, h => by
    obtain rfl : j = 0 := by omega
    simp [padZ]
  | n + 1, 0, r, _, h, _ => by
    have : Nat.beq (r.length % 64) 56 = true := by rw [Nat.beq_eq]; simpa using h
    simp only [padZ, this]; simp
  | n + 1, j + 1, r, h1, h2, h3 => by
    have : Nat.beq (r.length % 64) 56 = false := by
      cases hq : Nat.beq (r.length % 64) 56 with
      | true => rw [Nat.beq_eq] at hq; exact absurd (by simpa using hq) (h1 0 (by omega))
      | false => rfl
    simp only [padZ, this]
    rw [padZ_spec n j (r ++ [0]) (fun i hi => by simp only [List.length_append, List.length_singleton]; have := h1 (i + 1) (by omega); rwa [show r.length + 1 + i = r.length + (i + 1) by omega]) (by simp only [List.length_append, List.length_singleton]; rwa [show r.length + 1 + j = r.length + (j + 1) by omega]) (by omega)]
    rw [List.append_assoc]; rfl
theorem S8_at (s : S8) {k : Nat} (h : k < 8) : s.l[0 + k * 1]? = some (wd (s.get k)) := by
  have hq : k = 0 ∨ k = 1 ∨ k = 2 ∨ k = 3 ∨ k = 4 ∨ k = 5 ∨ k = 6 ∨ k = 7 := by omega
  rcases hq with rfl | rfl | rfl | rfl | rfl | rfl | rfl | rfl <;> rfl
noncomputable def dI (s : S8) (i : Nat) : List Nat := (digN s).take i ++ List.replicate (32 - i) 0
theorem digN_len (s : S8) : (digN s).length = 32 := by simp [digN]
theorem dI_len (s : S8) {i : Nat} (h : i ≤ 32) : (dI s i).length = 32 := by simp [dI, digN_len]; omega
theorem dI_at (s : S8) {i : Nat} (h : i < 32) : (bN (dI s i))[0 + i * 1]? = some (.int .u8 (.ofNat 0)) := by
  rw [Nat.zero_add, Nat.mul_one, bN_at (by rw [dI_len s (by omega)]; exact h)]
  have : (dI s i).getD i 0 = 0 := by
    simp [dI, List.getD, List.getElem?_append, digN_len, show min i 32 = i by omega, List.getElem?_replicate, show 0 < 32 - i by omega]
  rw [this]
theorem dI_set (s : S8) {i : Nat} (h : i < 32) : (bN (dI s i)).set (0 + i * 1) (.int .u8 (.ofNat (Nat.shiftRight (s.get (i / 4)) (min (24 - 8 * (i % 4)) 32) % 256))) = bN (dI s (i + 1)) := by
  have e : (digN s).take (i + 1) = (digN s).take i ++ [Nat.shiftRight (s.get (i / 4)) (24 - 8 * (i % 4)) % 256] := by
    rw [List.take_add_one]
    congr 1
    simp [digN, List.getElem?_map, List.getElem?_range h]
  have hm : min (24 - 8 * (i % 4)) 32 = 24 - 8 * (i % 4) := by omega
  have hl : ((digN s).take i).length = i := by simp [digN_len]; omega
  rw [Nat.zero_add, Nat.mul_one, hm]
  unfold bN
  rw [← List.map_set (f := fun c => W.int .u8 (.ofNat c))]
  congr 1
  unfold dI
  rw [e, show 32 - i = (32 - (i + 1)) + 1 by omega, List.replicate_succ, List.set_append_right _ _ (by omega), hl, Nat.sub_self, List.set_cons_zero, List.append_assoc]
  rfl
theorem mid1 (L : List Nat) (c : Nat) : some (W.sl 4 0 0 (L.length + (bN [c]).length) 1 none) = some (renW (tau1 2 4) (W.sl 2 0 0 (L ++ [c]).length 1 none)) := by
  rw [List.length_append]; rfl
theorem mid2 (L : List Nat) (c : Nat) : some (5, W.arr ((L.length + (bN [c]).length) * 1) 1 (((bN L).drop 0).take L.length ++ bN [c])) = some (5, renW (tau1 2 4) (W.arr (L ++ [c]).length 1 (bN (L ++ [c])))) := by
  rw [ren_pur (show purW (.arr (L ++ [c]).length 1 (bN (L ++ [c]))) = true from bN_pur _), List.drop_zero, List.take_of_length_le (by rw [bN_len]; exact Nat.le_refl _), Nat.mul_one, List.length_append]
  simp [bN]
theorem parts_pur : ∀ ps : List (List Nat × Bool), purL (ps.map partW) = true
  | [] => rfl
  | p :: ps => by simp only [List.map_cons, purL, partW, purW, bN_pur, Bool.true_and]; exact parts_pur ps
set_option maxHeartbeats 1600000 in
theorem of_s (ps : List (List Nat × Bool)) (fl : Bool) (hb : total (ps.map (·.1)) < 2147483648) (hpn : ps.length < 2147483648) (R : Res) :
    Spec cfg glK 234 0 [.fz (ps.map partW) 1 fl] [] R fun w hp nw R' => R' = R ∧ w = .arr 32 1 (bN (shaN (ps.map (·.1)))) := by
  refine spec_in (fn := Tryz.f234) rfl rfl rfl (Nat.le_of_ble_eq_true rfl) (fun k0 => ?_)
  refine co_seq ?_
  refine co_region (id := 0) ?_
  refine op_mem rfl rfl ?_
  refine op_nil ?_
  refine q_seq ?_
  refine co_seq ?_
  refine co_region (id := 1) ?_
  refine op_pure rfl rfl ?_
  refine op_mem rfl rfl ?_
  refine op_mem rfl rfl ?_
  refine op_nil ?_
  refine q_seq ?_
  refine co_seq ?_
  refine co_region (id := 2) ?_
  refine op_pure rfl rfl ?_
  refine op_nil ?_
  refine q_seq ?_
  refine co_seq ?_
  refine co_region (id := 3) ?_
  refine op_pure rfl rfl ?_
  refine op_nil ?_
  refine q_seq ?_
  refine co_seq ?_
  refine co_seq ?_
  refine co_region (id := 4) ?_
  refine op_pure rfl rfl ?_
  refine op_pure rfl rfl ?_
  refine op_pure rfl rfl ?_
  refine op_nil ?_
  refine q_seq ?_
  refine co_block ?_
  refine co_loop (α := Nat × S8 × Rst) (fun a => a.1 ≤ ps.length ∧ a.2.2.ok ∧ (a.2.1, a.2.2.r) = ((ps.map (·.1)).take a.1).foldl absorb (s0, []) ∧ a.2.2.r.length < 64) (fun a => [(13, .int .i64 (a.1 : Int)), (12, .int .i64 (ps.length : Int)), (11, .fz (ps.map partW) 1 fl), (5, .int .u64 (total ((ps.map (·.1)).take a.1) : Int)), (4, a.2.2.w), (3, .ptr 1 0), (2, .ptr 0 0)]) (fun a => hpS a.2.2 zero32 a.2.1) (fun a => a.2.2.nw) (fun _ => R) (fun a => ps.length - a.1) (0, s0, .nil) ⟨Nat.zero_le _, trivial, rfl, by decide⟩ ?_ (fun a ha => ?_)
  · exact ent_sub ⟨rfl, by simp [getW, putW], rfl, rfl, rfl, rfl, rfl, trivial⟩ rfl rfl
  have hPp : purW (.fz (ps.map partW) 1 fl) = true := parts_pur ps
  obtain ⟨i, s, r⟩ := a
  obtain ⟨hi, hok, hfold, hr64⟩ := ha
  refine co_seq ?_
  refine co_region (id := 5) ?_
  refine op_pure rfl rfl ?_
  refine op_nil ?_
  refine q_seq ?_
  refine co_seq ?_
  refine co_cond rfl (fun hc1 => ?_) (fun hc1 => ?_)
  · simp only at hi hok hfold hr64
    have hi1 : i < ps.length := by have := ltI_iff.1 hc1; simp only at this; omega
    obtain ⟨p, hp⟩ : ∃ p, ps[i]? = some p := ⟨_, List.getElem?_eq_getElem hi1⟩
    have hpw : (ps.map partW)[i]? = some (.fz (bN p.1) 1 p.2) := by rw [List.getElem?_map, hp]; rfl
    have htk : (ps.map (·.1)).take (i + 1) = (ps.map (·.1)).take i ++ [p.1] := by
      rw [List.take_add_one, List.getElem?_map, hp]; rfl
    have htot : ∀ l r : List (List Nat), total (l ++ r) = total l + total r := fun l r => by
      unfold total
      induction l with
      | nil => simp
      | cons x l ih => simp only [List.cons_append, List.map_cons, List.foldr_cons, ih]; omega
    have ht1 : total ((ps.map (·.1)).take (i + 1)) = total ((ps.map (·.1)).take i) + p.1.length := by rw [htk, htot]; simp [total]
    have htle : total ((ps.map (·.1)).take (i + 1)) ≤ total (ps.map (·.1)) := by
      have := htot ((ps.map (·.1)).take (i + 1)) ((ps.map (·.1)).drop (i + 1))
      rw [List.take_append_drop] at this; omega
    have hpl : p.1.length < 2147483648 := by omega
    refine co_skip ?_
    refine q_seq ?_
    refine co_seq ?_
    refine co_block ?_
    refine co_seq ?_
    refine co_region (id := 6) ?_
    refine op_pure rfl (ix_fz (i := i) rfl rfl rfl rfl rfl rfl rfl hpw) ?_
    refine op_mem rfl rfl ?_
    refine op_pure rfl rfl ?_
    refine op_nil ?_
    refine q_seq ?_
    refine co_seq ?_
    refine co_region (id := 7) ?_
    refine op_pure rfl rfl ?_
    refine op_pure rfl rfl ?_
    refine op_val rfl rfl (show _ = W.int .i64 (p.1.length : Int) by first | rfl | (simp [bN_len]; done) | (simp [bN_len]; rfl)) ?_
    refine op_nat (p.1.length) rfl rfl (by first | rfl | omega) ⟨by omega, by omega⟩ ?_
    refine op_nat (total ((ps.map (·.1)).take i) + p.1.length) rfl rfl (by first | rfl | omega) ⟨by omega, by omega⟩ ?_
    refine op_pure rfl rfl ?_
    refine op_nil ?_
    refine q_seq ?_
    refine co_cut (α := Rst) (fun r' => r'.ok ∧ r'.r = r.r ++ p.1) (fun r' => [(13, .int .i64 (i : Int)), (12, .int .i64 (ps.length : Int)), (11, .fz (ps.map partW) 1 fl), (5, .int .u64 (total ((ps.map (·.1)).take (i + 1)) : Int)), (4, r'.w), (3, .ptr 1 0), (2, .ptr 0 0)]) (fun r' => hpS r' zero32 s) (fun r' => r'.nw) ?_ (fun a ha => ?_)
    · obtain ⟨w, hp', nw', ev, e1, r', e2, e3, e4⟩ := app_r r hok zero32 s p.1 p.2 hpl hr64
      refine co_region (id := 8) ?_
      refine op_pure rfl rfl ?_
      refine op_pure rfl rfl ?_
      refine op_mem rfl (ap_op rfl rfl e1) ?_
      refine op_pure rfl rfl ?_
      refine op_nil ?_
      refine ⟨rfl, r', ⟨e2, e3⟩, ?_⟩
      rcases e4 with ⟨rfl, rfl, rfl⟩ | ⟨all, rfl, rfl, rfl, rfl⟩
      · exact ent_sub ⟨rfl, rfl, rfl, by rw [ht1]; rfl, rfl, rfl, rfl, trivial⟩ rfl rfl
      · refine ent_last (b := 2) (k := 3) (by omega) (by omega) (by omega) ⟨⟨rfl, rfl⟩, ⟨rfl, rfl⟩, ⟨by rw [ren_pur hPp]; rfl, ref_pur hPp⟩, ⟨by rw [ht1]; rfl, rfl⟩, ⟨rfl, rfl⟩, ⟨rfl, rfl⟩, ⟨rfl, rfl⟩, trivial⟩ ⟨⟨by omega, by rw [ren_pur (show purW (.arr all.length 1 (bN all)) = true from bN_pur _)]; rfl, ref_pur (show purW (.arr all.length 1 (bN all)) = true from bN_pur _)⟩, ⟨by omega, rfl, rfl⟩, ⟨by omega, rfl, rfl⟩, trivial⟩ (by simp [hpS, Rst.hp])
    obtain ⟨hak, har⟩ := ha
    have hstep : (ps.map (·.1)).take (i + 1) = (ps.map (·.1)).take i ++ [p.1] := htk
    have hnext : ((ps.map (·.1)).take (i + 1)).foldl absorb (s0, []) = absorb (s, r.r) p.1 := by rw [hstep, List.foldl_append, ← hfold]; rfl
    refine co_block ?_
    refine co_loop (α := S8 × Rst) (fun b => b.2.ok ∧ eats b.1 b.2.r = absorb (s, r.r) p.1) (fun b => [(13, .int .i64 (i : Int)), (12, .int .i64 (ps.length : Int)), (11, .fz (ps.map partW) 1 fl), (5, .int .u64 (total ((ps.map (·.1)).take (i + 1)) : Int)), (4, b.2.w), (3, .ptr 1 0), (2, .ptr 0 0)]) (fun b => hpS b.2 zero32 b.1) (fun b => b.2.nw) (fun _ => R) (fun b => b.2.r.length) (s, a) ⟨hak, by simp only [absorb, har]⟩ (Ent.refl) (fun b hb => ?_)
    obtain ⟨s', r'⟩ := b
    obtain ⟨hok', heat⟩ := hb
    simp only at hok' heat
    have done : r'.r.length < 64 → (s', r'.r) = ((ps.map (·.1)).take (i + 1)).foldl absorb (s0, []) := fun h => by
      rw [hnext, ← heat, eats, eat_less _ _ _ h]
    skip
    cases r' with
    | nil =>
      refine co_seq ?_
      refine co_seq ?_
      refine co_region (id := 9) ?_
      refine op_pure rfl rfl ?_
      refine op_pure rfl rfl ?_
      refine op_pure rfl rfl ?_
      refine op_nil ?_
      refine q_seq ?_
      refine co_false rfl ?_
      refine co_exit ?_
      refine q_seqx (by intro h; cases h) ?_
      refine q_out (by intro h; cases h) ?_
      refine q_blk ?_
      refine q_blkn (by intro i h; cases h) ?_
      refine q_seq ?_
      refine co_region (id := 12) ?_
      refine op_nat (i + 1) rfl rfl (by first | rfl | omega) ⟨by omega, by omega⟩ ?_
      refine op_pure rfl rfl ?_
      refine op_nil ?_
      refine q_again (i + 1, s', .nil) ⟨hi1, trivial, done (by show 0 < 64; omega), (by show 0 < 64; omega)⟩ (by simp only; omega) (ent_sub ⟨rfl, rfl, rfl, rfl, rfl, rfl, rfl, trivial⟩ rfl rfl)
    | sl all base off =>
      obtain ⟨ho1, ho2⟩ := hok'
      have hrl : (Rst.sl all base off).r.length = all.length - off := by simp [Rst.r]
      refine co_seq ?_
      refine co_seq ?_
      refine co_region (id := 9) ?_
      refine op_pure rfl rfl ?_
      refine op_val rfl rfl (show _ = W.int .i64 ((all.length - off : Nat) : Int) by first | rfl | (simp [bN_len]; done) | (simp [bN_len]; rfl)) ?_
      refine op_pure rfl rfl ?_
      refine op_nil ?_
      refine q_seq ?_
      refine co_cond rfl (fun hc2 => ?_) (fun hc2 => ?_)
      · have h64 : 64 ≤ all.length - off := by
          have := hc2
          simp only [Bool.not_eq_true'] at this
          have := ltI_not.1 this
          omega
        have hpa : purW (.arr all.length 1 (bN all)) = true := bN_pur all
        have hby : ∀ k, k < 64 → getAtW 50 (.arr all.length 1 (bN all)) (off + 0 * 1 + k * 1) 1 false = some (.int .u8 (.ofNat (atL (all.drop off) k))) := fun k hk => by
          have := bN_at (l := all) (i := off + k) (by omega)
          refine get_arr1 ?_ rfl
          rw [Nat.zero_mul, Nat.add_zero, Nat.mul_one, this]
          simp [atL, List.getD, List.getElem?_drop]
        have hr' : (Rst.sl all off (off + 64)).r = ((Rst.sl all base off).r).drop 64 := by simp [Rst.r]
        refine co_skip ?_
        refine q_seq ?_
        refine co_seq ?_
        refine co_block ?_
        refine co_region (id := 11) ?_
        refine op_pure rfl rfl ?_
        refine op_pure rfl (cut_hi (h := 64) rfl rfl rfl rfl rfl rfl rfl h64) ?_
        (refine op_step rfl (step_call (ext := [1, 2]) (ws := [.ptr 0 0, .sl 1 base (off + 0 * 1) (64 - 0) 1 none]) rfl rfl rfl rfl rfl (fun R => block_s s' (atL (all.drop off)) (.arr all.length 1 (bN all)) base _ none 5 (ref_pur hpa) hby R) (by decide) (by intro b hb; simp only [List.mem_cons, List.not_mem_nil, or_false] at hb; show b < 3; omega) (by simp) (handed2 rfl (by rw [ren_pur hpa]; rfl) rfl (ref_pur hpa)) rfl ?_); rintro w hp1 nw1 ⟨rfl, rfl, rfl⟩)
        refine op_nil ?_
        refine q_blkn (by intro i h; cases h) ?_
        refine q_seq ?_
        refine co_region (id := 10) ?_
        refine op_pure rfl rfl ?_
        refine op_pure rfl (cut_lo (l := 64) rfl rfl rfl rfl rfl rfl rfl h64 rfl) ?_
        refine op_pure rfl rfl ?_
        refine op_nil ?_
        refine q_again (blockN (atL (all.drop off)) s', .sl all off (off + 64)) ⟨⟨by omega, ho2⟩, ?_⟩ (by simp only [hr']; simp only [hrl, List.length_drop]; omega) (ent_low (by omega) (Nat.le_refl _) ⟨rfl, rfl, rfl, rfl, ?_, rfl, rfl, trivial⟩ (by simp only [List.all_cons, List.all_nil, ref_pur hPp, Bool.and_true]; rfl) (subH_get ⟨⟨by show 2 < 3; omega, by show some (5, renW _ (W.arr all.length 1 (bN all))) = _; rw [ren_pur hpa], ref_pur hpa⟩, ⟨by show 1 < 3; omega, rfl, rfl⟩, ⟨by show 0 < 3; omega, rfl, rfl⟩, trivial⟩) (by simp [hpS, Rst.hp]))
        · rw [hr', ← heat]
          exact (eats_more (r := (Rst.sl all base off).r) (by rw [hrl]; exact h64)).symm
        · show some (W.sl 2 off (off + 64 * 1) (all.length - off - 64) 1 (limCut 64 none)) = some (W.sl 2 off (off + 64) (all.length - (off + 64)) 1 none)
          rw [Nat.sub_sub]; rfl
      · have h64 : all.length - off < 64 := by
          have := hc2
          simp only [Bool.not_eq_false'] at this
          have := ltI_iff.1 this
          omega
        refine co_exit ?_
        refine q_seqx (by intro h; cases h) ?_
        refine q_out (by intro h; cases h) ?_
        refine q_blk ?_
        refine q_blkn (by intro i h; cases h) ?_
        refine q_seq ?_
        refine co_region (id := 12) ?_
        refine op_nat (i + 1) rfl rfl (by first | rfl | omega) ⟨by omega, by omega⟩ ?_
        refine op_pure rfl rfl ?_
        refine op_nil ?_
        refine q_again (i + 1, s', .sl all base off) ⟨hi1, ⟨ho1, ho2⟩, done (by rw [hrl]; exact h64), by simp only [hrl]; exact h64⟩ (by simp only; omega) (ent_sub ⟨rfl, rfl, rfl, rfl, rfl, rfl, rfl, trivial⟩ rfl rfl)
  · simp only at hi hok hfold hr64
    obtain rfl : i = ps.length := by have := ltI_not.1 hc1; simp only at this; omega
    rw [show (ps.map (·.1)).take ps.length = ps.map (·.1) by rw [List.take_of_length_le (by simp)]] at hfold
    have hT : (ps.map (·.1)).take ps.length = ps.map (·.1) := by rw [List.take_of_length_le (by simp)]
    have hdt : ∀ (all : List Nat) (off : Nat), ((bN all).drop off).take (all.length - off) = bN (all.drop off) := fun all off => by
      rw [List.take_of_length_le (by simp [bN_len])]; simp [bN, List.map_drop]
    have bapp : ∀ a b : List Nat, bN a ++ bN b = bN (a ++ b) := fun a b => by simp [bN]
    have apur : ∀ all : List Nat, purW (.arr all.length 1 (bN all)) = true := fun all => bN_pur all
    refine co_exit ?_
    refine q_seqx (by intro h; cases h) ?_
    refine q_out (by intro h; cases h) ?_
    refine q_blk ?_
    refine q_seq ?_
    refine co_cut (α := Unit) (fun _ => True) (fun _ => [(5, .int .u64 (total (ps.map (·.1)) : Int)), (4, .sl 2 0 0 (r.r ++ [128]).length 1 none), (3, .ptr 1 0), (2, .ptr 0 0)]) (fun _ => hpS (.sl (r.r ++ [128]) 0 0) zero32 s) (fun _ => 3) ?_ (fun a ha => ?_)
    · skip
      cases r with
      | nil =>
        refine co_region (id := 13) ?_
        refine op_pure rfl rfl ?_
        refine op_mem rfl rfl ?_
        refine op_mem rfl (ap_op rfl rfl (app_nil (news := bN [128]) (k := ti5) rfl rfl rfl rfl rfl (by simp [bN]) (by decide) (by decide))) ?_
        refine op_pure rfl rfl ?_
        refine op_nil ?_
        refine ⟨rfl, (), trivial, ?_⟩
        exact ent_last (b := 2) (k := 3) (by omega) (by omega) (by show 3 < 4; omega) ⟨⟨by show some (W.int .u64 ((total ((ps.map (·.1)).take ps.length) : Nat) : Int)) = _; rw [hT]; rfl, rfl⟩, ⟨rfl, rfl⟩, ⟨rfl, rfl⟩, ⟨rfl, rfl⟩, trivial⟩ ⟨⟨by omega, rfl, rfl⟩, ⟨by omega, rfl, rfl⟩, ⟨by omega, rfl, rfl⟩, trivial⟩ (by simp [hpS, Rst.hp])
      | sl all base off =>
        obtain ⟨ho1, ho2⟩ := hok
        simp only [Rst.r, List.length_drop] at hr64
        have hle : ((Rst.sl all base off).r ++ [128]).length = all.length - off + 1 := by simp [Rst.r]
        refine co_region (id := 13) ?_
        refine op_pure rfl rfl ?_
        refine op_mem rfl rfl ?_
        refine op_mem rfl (ap_op rfl rfl (app_sl (news := bN [128]) (k := ti5) (v := .arr all.length 1 (bN all)) (off := off) rfl rfl rfl rfl rfl (by simp [bN]) (show (all.length - off + 1) * 1 ≤ 140737488355328 by omega) (show all.length - off + 1 ≤ 70368744177664 by omega) rfl (show all.length < off + (all.length - off + 1) * 1 by omega) rfl (sub_arr1 (by omega)))) ?_
        refine op_pure rfl rfl ?_
        refine op_nil ?_
        refine ⟨rfl, (), trivial, ?_⟩
        refine ent_last (b := 2) (k := 4) (by omega) (by omega) (by show 4 < 5; omega) ⟨⟨by show some (W.int .u64 ((total ((ps.map (·.1)).take ps.length) : Nat) : Int)) = _; rw [hT]; rfl, rfl⟩, ⟨?_, rfl⟩, ⟨rfl, rfl⟩, ⟨rfl, rfl⟩, trivial⟩ ⟨⟨by omega, ?_, ref_pur (apur _)⟩, ⟨by omega, rfl, rfl⟩, ⟨by omega, rfl, rfl⟩, trivial⟩ (by simp [hpS, Rst.hp])
        · rw [hle]; rfl
        · rw [ren_pur (apur _), hle, ← bapp]
          show some (5, W.arr ((all.length - off + 1) * 1) 1 (((bN all).drop off).take (all.length - off) ++ bN [128])) = _
          rw [hdt, Nat.mul_one]; rfl
    -- noughts
    have htm : ∀ n : Nat, ((n : Int)).tmod 64 = ((n % 64 : Nat) : Int) := fun n => by rw [Int.tmod_eq_emod_of_nonneg (by omega)]; omega
    have hA0 : (r.r ++ [128]).length ≤ 64 := by simp; omega
    generalize hA : r.r ++ [128] = A at *
    refine co_seq ?_
    refine co_block ?_
    refine co_loop (α := Nat) (fun j => ∀ i, i < j → (A.length + i) % 64 ≠ 56) (fun j => [(5, .int .u64 (total (ps.map (·.1)) : Int)), (4, .sl 2 0 0 (A ++ List.replicate j 0).length 1 none), (3, .ptr 1 0), (2, .ptr 0 0)]) (fun j => hpS (.sl (A ++ List.replicate j 0) 0 0) zero32 s) (fun _ => 3) (fun _ => R) (fun j => 64 - j) 0 (fun i hi => absurd hi (by omega)) (by rw [List.replicate_zero, List.append_nil]; exact Ent.refl) (fun j hj => ?_)
    have hj64 : j < 64 := by
      refine Nat.lt_of_not_le fun h => ?_
      have := hj ((56 + 64 - A.length % 64) % 64) (by omega)
      omega
    have hlj : (A ++ List.replicate j 0).length = A.length + j := by simp
    refine co_seq ?_
    refine co_seq ?_
    refine co_region (id := 14) ?_
    refine op_pure rfl rfl ?_
    refine op_val rfl rfl (show _ = W.int .i64 ((A ++ List.replicate j 0).length : Int) by first | rfl | (simp [bN_len]; done) | (simp [bN_len]; rfl)) ?_
    refine op_val rfl rfl (congrArg (W.int .i64) (htm _)) ?_
    refine op_pure rfl rfl ?_
    refine op_nil ?_
    refine q_seq ?_
    refine co_cond rfl (fun hc3 => ?_) (fun hc3 => ?_)
    · have hne : (A.length + j) % 64 ≠ 56 := by
        have := hc3
        simp only [Bool.not_eq_true'] at this
        have := eqI_not.1 this
        rw [hlj] at this; omega
      refine co_skip ?_
      refine q_seq ?_
      refine co_block ?_
      refine co_region (id := 15) ?_
      refine op_pure rfl rfl ?_
      refine op_mem rfl rfl ?_
      refine op_mem rfl (ap_op rfl rfl (app_sl (news := bN [0]) (k := ti5) (v := .arr (A ++ List.replicate j 0).length 1 (bN (A ++ List.replicate j 0))) (off := 0) rfl rfl rfl rfl rfl (by simp [bN]) (show ((A ++ List.replicate j 0).length + 1) * 1 ≤ 140737488355328 by omega) (show (A ++ List.replicate j 0).length + 1 ≤ 70368744177664 by omega) rfl (show (A ++ List.replicate j 0).length < 0 + ((A ++ List.replicate j 0).length + 1) * 1 by omega) rfl (sub_arr1 (by omega)))) ?_
      refine op_pure rfl rfl ?_
      refine op_nil ?_
      refine q_blkn (by intro i h; cases h) ?_
      have hrep : A ++ List.replicate (j + 1) 0 = (A ++ List.replicate j 0) ++ [0] := by rw [List.append_assoc, ← List.replicate_succ']
      refine q_again (j + 1) (fun i hi => ?_) (by omega) (ent_last (b := 2) (k := 4) (by omega) (by omega) (by show 4 < 5; omega) ⟨⟨rfl, rfl⟩, ⟨?_, rfl⟩, ⟨rfl, rfl⟩, ⟨rfl, rfl⟩, trivial⟩ ⟨⟨by omega, ?_, ref_pur (apur _)⟩, ⟨by omega, rfl, rfl⟩, ⟨by omega, rfl, rfl⟩, trivial⟩ (by simp [hpS, Rst.hp]))
      · rcases Nat.lt_succ_iff_lt_or_eq.1 hi with h | rfl
        · exact hj i h
        · exact hne
      · rw [hrep]; exact mid1 _ 0
      · rw [hrep]; exact mid2 _ 0
    · have he : (A.length + j) % 64 = 56 := by
        have := hc3
        simp only [Bool.not_eq_false'] at this
        have := eqI_iff.1 this
        rw [hlj] at this; omega
      have hpz : padZ 64 A = A ++ List.replicate j 0 := padZ_spec 64 j A hj he (by omega)
      rw [← hpz]
      have hBl : (padZ 64 A).length < 200 := by rw [hpz, hlj]; omega
      have hB64 : (padZ 64 A).length % 64 = 56 := by rw [hpz, hlj]; exact he
      generalize hB : padZ 64 A = B at hBl hB64
      refine co_exit ?_
      refine q_seqx (by intro h; cases h) ?_
      refine q_out (by intro h; cases h) ?_
      refine q_blk ?_
      refine q_seq ?_
      refine co_seq ?_
      refine co_seq ?_
      refine co_region (id := 16) ?_
      refine op_pure rfl rfl ?_
      refine op_nil ?_
      refine q_seq ?_
      refine co_block ?_
      have h8 : ∀ k, k ≤ 8 → ((len8 (total (ps.map (·.1)))).take k).length = k := fun k hk => by simp [len8]; omega
      refine co_loop (α := Nat) (fun k => k ≤ 8) (fun k => [(8, .int .i64 (56 - 8 * (k : Int))), (5, .int .u64 (total (ps.map (·.1)) : Int)), (4, .sl 2 0 0 (B ++ (len8 (total (ps.map (·.1)))).take k).length 1 none), (3, .ptr 1 0), (2, .ptr 0 0)]) (fun k => hpS (.sl (B ++ (len8 (total (ps.map (·.1)))).take k) 0 0) zero32 s) (fun _ => 3) (fun _ => R) (fun k => 8 - k) 0 (Nat.zero_le _) (by rw [List.take_zero, List.append_nil]; exact ent_sub ⟨rfl, rfl, rfl, rfl, rfl, trivial⟩ rfl rfl) (fun k hk => ?_)
      refine co_seq ?_
      refine co_seq ?_
      refine co_region (id := 17) ?_
      refine op_pure rfl rfl ?_
      refine op_pure rfl rfl ?_
      refine op_nil ?_
      refine q_seq ?_
      refine co_cond rfl (fun hc4 => ?_) (fun hc4 => ?_)
      · have hk8 : k < 8 := by
          have := hc4
          simp only [Bool.not_eq_true'] at this
          have := ltI_not.1 this
          omega
        have hLk := h8 k hk
        have hll : (B ++ (len8 (total (ps.map (·.1)))).take k).length = B.length + k := by rw [List.length_append, hLk]
        have hnx : B ++ (len8 (total (ps.map (·.1)))).take (k + 1) = (B ++ (len8 (total (ps.map (·.1)))).take k) ++ [Nat.shiftRight (8 * total (ps.map (·.1)) % 18446744073709551616) (min (56 - 8 * k) 64) % 256] := by
          rw [List.take_add_one, ← List.append_assoc]
          congr 1
          have hq : k = 0 ∨ k = 1 ∨ k = 2 ∨ k = 3 ∨ k = 4 ∨ k = 5 ∨ k = 6 ∨ k = 7 := by omega
          rcases hq with rfl | rfl | rfl | rfl | rfl | rfl | rfl | rfl <;> rfl
        have hw8 : wrapF .i64 (56 - 8 * (k : Int) - 8) = 56 - 8 * (k : Int) - 8 := wrapF_in (k := .i64) ⟨by omega, by omega⟩
        refine co_skip ?_
        refine q_seq ?_
        refine co_seq ?_
        refine co_block ?_
        refine co_region (id := 19) ?_
        refine op_pure rfl rfl ?_
        refine op_pure rfl rfl ?_
        refine op_pure rfl rfl ?_
        refine op_val rfl rfl (show W.int .i64 (56 - 8 * (k : Int)) = W.int .i64 ((56 - 8 * k : Nat) : Int) by congr 1; omega) ?_
        refine op_pure rfl rfl ?_
        refine op_pure rfl rfl ?_
        refine op_mem rfl rfl ?_
        refine op_mem rfl (ap_op rfl rfl (app_sl (news := bN [Nat.shiftRight (8 * total (ps.map (·.1)) % 18446744073709551616) (min (56 - 8 * k) 64) % 256]) (k := ti5) (v := .arr (B ++ (len8 (total (ps.map (·.1)))).take k).length 1 (bN (B ++ (len8 (total (ps.map (·.1)))).take k))) (off := 0) rfl rfl rfl rfl rfl (by simp [bN]) (show ((B ++ (len8 (total (ps.map (·.1)))).take k).length + 1) * 1 ≤ 140737488355328 by omega) (show (B ++ (len8 (total (ps.map (·.1)))).take k).length + 1 ≤ 70368744177664 by omega) rfl (show (B ++ (len8 (total (ps.map (·.1)))).take k).length < 0 + ((B ++ (len8 (total (ps.map (·.1)))).take k).length + 1) * 1 by omega) rfl (sub_arr1 (by omega)))) ?_
        refine op_pure rfl rfl ?_
        refine op_nil ?_
        refine q_blkn (by intro i h; cases h) ?_
        refine q_seq ?_
        refine co_region (id := 18) ?_
        refine op_pure rfl rfl ?_
        refine op_val (w := W.int .i64 (wrapF .i64 (56 - 8 * (k : Int) - 8))) rfl rfl (show _ = W.int .i64 (56 - 8 * ((k + 1 : Nat) : Int)) by rw [hw8]; congr 1; omega) ?_
        refine op_pure rfl rfl ?_
        refine op_nil ?_
        refine q_again (k + 1) (by omega) (by omega) (ent_last (b := 2) (k := 4) (by omega) (by omega) (by show 4 < 5; omega) ⟨⟨rfl, rfl⟩, ⟨rfl, rfl⟩, ⟨?_, rfl⟩, ⟨rfl, rfl⟩, ⟨rfl, rfl⟩, trivial⟩ ⟨⟨by omega, ?_, ref_pur (apur _)⟩, ⟨by omega, rfl, rfl⟩, ⟨by omega, rfl, rfl⟩, trivial⟩ (by simp [hpS, Rst.hp]))
        · rw [hnx]; exact mid1 _ _
        · rw [hnx]; exact mid2 _ _
      · obtain rfl : k = 8 := by
          have := hc4
          simp only [Bool.not_eq_false'] at this
          have := ltI_iff.1 this
          omega
        have ht8 : (len8 (total (ps.map (·.1)))).take 8 = len8 (total (ps.map (·.1))) := rfl
        rw [ht8]
        have hMl : (B ++ len8 (total (ps.map (·.1)))).length = B.length + 8 := by simp [len8]
        have hsha : shaN (ps.map (·.1)) = digN (eatAll (B ++ len8 (total (ps.map (·.1)))).length s (B ++ len8 (total (ps.map (·.1))))) := by
          simp only [shaN, ← hfold, hA, hB]
        generalize hM : B ++ len8 (total (ps.map (·.1))) = M at hMl hsha
        refine co_exit ?_
        refine q_seqx (by intro h; cases h) ?_
        refine q_out (by intro h; cases h) ?_
        refine q_blk ?_
        refine q_seq ?_
        refine co_seq ?_
        refine co_block ?_
        refine co_loop (α := S8 × Nat × Nat) (fun b => b.2.2 ≤ M.length ∧ (M.length - b.2.2) % 64 = 0 ∧ eatAll M.length s M = eatAll (M.drop b.2.2).length b.1 (M.drop b.2.2)) (fun b => [(4, .sl 2 b.2.1 b.2.2 (M.length - b.2.2) 1 none), (3, .ptr 1 0), (2, .ptr 0 0)]) (fun b => hpS (.sl M b.2.1 b.2.2) zero32 b.1) (fun _ => 3) (fun _ => R) (fun b => M.length - b.2.2) (s, 0, 0) ⟨Nat.zero_le _, by show (M.length - 0) % 64 = 0; omega, rfl⟩ (ent_sub ⟨rfl, rfl, rfl, trivial⟩ rfl rfl) (fun b hb5 => ?_)
        obtain ⟨s', base, off⟩ := b
        obtain ⟨ho, hmod, heat⟩ := hb5
        simp only at ho hmod heat
        refine co_seq ?_
        refine co_seq ?_
        refine co_region (id := 20) ?_
        refine op_pure rfl rfl ?_
        refine op_val rfl rfl (show _ = W.int .i64 ((M.length - off : Nat) : Int) by first | rfl | (simp [bN_len]; done) | (simp [bN_len]; rfl)) ?_
        refine op_pure rfl rfl ?_
        refine op_nil ?_
        refine q_seq ?_
        refine co_cond rfl (fun hc5 => ?_) (fun hc5 => ?_)
        · have h1 : 1 ≤ M.length - off := by have := ltI_iff.1 hc5; omega
          have h64 : 64 ≤ M.length - off := by omega
          have hpa : purW (.arr M.length 1 (bN M)) = true := bN_pur M
          have hby : ∀ k, k < 64 → getAtW 50 (.arr M.length 1 (bN M)) (off + 0 * 1 + k * 1) 1 false = some (.int .u8 (.ofNat (atL (M.drop off) k))) := fun k hk => by
            have := bN_at (l := M) (i := off + k) (by omega)
            refine get_arr1 ?_ rfl
            rw [Nat.zero_mul, Nat.add_zero, Nat.mul_one, this]
            simp [atL, List.getD, List.getElem?_drop]
          refine co_skip ?_
          refine q_seq ?_
          refine co_seq ?_
          refine co_block ?_
          refine co_region (id := 22) ?_
          refine op_pure rfl rfl ?_
          refine op_pure rfl (cut_hi (h := 64) rfl rfl rfl rfl rfl rfl rfl h64) ?_
          (refine op_step rfl (step_call (ext := [1, 2]) (ws := [.ptr 0 0, .sl 1 base (off + 0 * 1) (64 - 0) 1 none]) rfl rfl rfl rfl rfl (fun R => block_s s' (atL (M.drop off)) (.arr M.length 1 (bN M)) base _ none 5 (ref_pur hpa) hby R) (by decide) (by intro b hb; simp only [List.mem_cons, List.not_mem_nil, or_false] at hb; show b < 3; omega) (by simp) (handed2 rfl (by rw [ren_pur hpa]; rfl) rfl (ref_pur hpa)) rfl ?_); rintro w hp1 nw1 ⟨rfl, rfl, rfl⟩)
          refine op_nil ?_
          refine q_blkn (by intro i h; cases h) ?_
          refine q_seq ?_
          refine co_region (id := 21) ?_
          refine op_pure rfl rfl ?_
          refine op_pure rfl (cut_lo (l := 64) rfl rfl rfl rfl rfl rfl rfl h64 rfl) ?_
          refine op_pure rfl rfl ?_
          refine op_nil ?_
          refine q_again (blockN (atL (M.drop off)) s', off, off + 64) ⟨by simp only; omega, by simp only; omega, ?_⟩ (by simp only; omega) (ent_low (by omega) (Nat.le_refl _) ⟨?_, rfl, rfl, trivial⟩ rfl (subH_get ⟨⟨by omega, by show some (5, renW _ (W.arr M.length 1 (bN M))) = _; rw [ren_pur hpa], ref_pur hpa⟩, ⟨by omega, rfl, rfl⟩, ⟨by omega, rfl, rfl⟩, trivial⟩) (by simp [hpS, Rst.hp]))
          · rw [heat, eatAll_step (by simp; omega), List.drop_drop]
          · show some (W.sl 2 off (off + 64 * 1) (M.length - off - 64) 1 (limCut 64 none)) = some (W.sl 2 off (off + 64) (M.length - (off + 64)) 1 none)
            rw [Nat.sub_sub]; rfl
        · have h0 : M.length - off = 0 := by have := ltI_not.1 hc5; omega
          have hend : eatAll M.length s M = s' := by
            rw [heat, List.drop_of_length_le (by omega)]; rfl
          rw [hend] at hsha
          refine co_exit ?_
          refine q_seqx (by intro h; cases h) ?_
          refine q_out (by intro h; cases h) ?_
          refine q_blk ?_
          refine q_seq ?_
          refine co_seq ?_
          refine co_seq ?_
          refine co_region (id := 23) ?_
          refine op_pure rfl rfl ?_
          refine op_nil ?_
          refine q_seq ?_
          refine co_block ?_
          have htd4 : ∀ n : Nat, ((n : Int)).tdiv 4 = ((n / 4 : Nat) : Int) := fun n => by rw [Int.tdiv_eq_ediv_of_nonneg (by omega)]; omega
          have htm4 : ∀ n : Nat, ((n : Int)).tmod 4 = ((n % 4 : Nat) : Int) := fun n => by rw [Int.tmod_eq_emod_of_nonneg (by omega)]; omega
          refine co_loop (α := Nat) (fun i => i ≤ 32) (fun i => [(64, .int .i64 (i : Int)), (3, .ptr 1 0), (2, .ptr 0 0)]) (fun i => hpS (.sl M base off) (.arr 32 1 (bN (dI s' i))) s') (fun _ => 3) (fun _ => R) (fun i => 32 - i) 0 (Nat.zero_le _) (ent_sub ⟨rfl, rfl, rfl, trivial⟩ rfl rfl) (fun i hi => ?_)
          refine co_seq ?_
          refine co_region (id := 24) ?_
          refine op_pure rfl rfl ?_
          refine op_nil ?_
          refine q_seq ?_
          refine co_seq ?_
          refine co_cond rfl (fun hc6 => ?_) (fun hc6 => ?_)
          · have hi32 : i < 32 := by have := ltI_iff.1 hc6; omega
            refine co_skip ?_
            refine q_seq ?_
            refine co_seq ?_
            refine co_block ?_
            refine co_seq ?_
            refine co_region (id := 25) ?_
            refine op_pure rfl rfl ?_
            refine op_pure rfl rfl ?_
            refine op_nil ?_
            refine q_seq ?_
            refine co_region (id := 26) ?_
            refine op_pure rfl rfl ?_
            refine op_pure rfl rfl ?_
            refine op_nat (i / 4) rfl rfl (htd4 i) ⟨by omega, by omega⟩ ?_
            refine op_pure rfl (ix_arr (i := i / 4) rfl rfl rfl rfl rfl rfl (by omega)) ?_
            refine op_mem rfl (ld_own rfl rfl rfl (get_arr1 (S8_at s' (by omega)) rfl)) ?_
            refine op_pure rfl rfl ?_
            refine op_val rfl rfl (congrArg (W.int .i64) (htm4 i)) ?_
            refine op_nat (8 * (i % 4)) rfl rfl (by first | rfl | omega) ⟨by omega, by omega⟩ ?_
            refine op_nat (24 - 8 * (i % 4)) rfl rfl (by first | rfl | omega) ⟨by omega, by omega⟩ ?_
            refine op_pure rfl rfl ?_
            refine op_pure rfl rfl ?_
            refine op_pure rfl (ix_arr (i := i) rfl rfl rfl rfl rfl rfl (by omega)) ?_
            refine op_mem rfl (st_own rfl rfl rfl rfl rfl (put_arr1 (dI_at s' hi32) rfl rfl) rfl) ?_
            refine op_nil ?_
            refine q_blkn (by intro i h; cases h) ?_
            refine q_seq ?_
            refine co_region (id := 27) ?_
            first | refine op_wrap rfl rfl ⟨by omega, by omega⟩ ?_ | refine op_pure rfl rfl ?_
            refine op_pure rfl rfl ?_
            refine op_nil ?_
            refine q_again (i + 1) (by omega) (by omega) (ent_sub ⟨rfl, rfl, rfl, trivial⟩ ?_ rfl)
            exact congrArg (fun L => hpS (.sl M base off) (.arr 32 1 L) s') (dI_set s' hi32)
          · obtain rfl : i = 32 := by have := ltI_not.1 hc6; omega
            refine co_exit ?_
            refine q_seqx (by intro h; cases h) ?_
            refine q_out (by intro h; cases h) ?_
            refine q_blk ?_
            refine q_seq ?_
            refine co_seq ?_
            refine co_region (id := 28) ?_
            refine op_mem rfl rfl ?_
            refine op_mem rfl rfl ?_
            refine op_nil ?_
            refine q_seq ?_
            refine co_ret ?_
            refine fin (.inr rfl) Ent.refl rfl ⟨rfl, ?_⟩
            rw [hsha]
            have : dI s' 32 = digN s' := by simp [dI, List.take_of_length_le, digN_len]
            rw [← this]
end Go.Proofs.YtmlemnbhjbaedaaGreatDoor

/-
  What the proof of PurseGives stands on, part 8. No condition.
-/
import Derived.Test.YtgeelfdgnehdnaaZPurseGivesG
namespace Go.Proofs.Ytgeelfdgnehdnaa
open Go.RowKit
set_option linter.unusedSimpArgs false
set_option linter.unusedVariables false
attribute [local irreducible] CoW OpW FlW Step Spec
variable {G : Nat → Option W}
theorem rnumber_s (l : List UInt8) (f : Bool) (hl : l.length ≤ 8) : PS cfg G 81 [.fz (zBq l) 1 f] (.int .u64 (numB l : Nat)) := by
  have e := yoq l
  refine ynq (fn := Try.f81) rfl rfl rfl (Nat.le_of_ble_eq_true rfl) (fun R k0 => ?_)
  refine zcq (zbq (zaq rfl rfl (zdq ?_)))
  refine zfq (zcq (zbq (zaq rfl rfl (zdq ?_))))
  refine zfq (zcq (zcq (zbq (zaq rfl rfl (zdq ?_)))))
  refine zfq (zmq ?_)
  refine ySq (α := Nat) (fun i => i ≤ l.length) (fun i => [(4, .int .i64 (i : Int)), (3, .int .u64 (numB (l.take i) : Nat))]) [(0, _), (2, _)] (fun i => l.length - i) (0) ⟨rfl, rfl, trivial⟩ (Nat.zero_le _) ⟨rfl, rfl, trivial⟩ (fun i hI => ?_)
  refine zcq (zcq (zbq (zaq rfl rfl (zaq rfl rfl (zNq (w' := .int .i64 (l.length : Int)) rfl rfl (by rw [← e]; rfl) ?_)))))
  refine zCq rfl rfl ?_
  refine zdq ?_
  refine zfq ?_
  refine zEq rfl (fun h1 => ?_) (fun h1 => ?_)
  · have hi : i < l.length := by omega
    obtain ⟨c, hc⟩ : ∃ c, l[i]? = some c := ⟨_, List.getElem?_eq_getElem hi⟩
    have hcl := c.toNat_lt
    have hn := uNq (l := l) (i := i) (by omega)
    have ht := numB_take hc
    have hlt : numB (l.take (i + 1)) < 18446744073709551616 := by
      have h1 := vEq (l.take (i + 1))
      have h2 : 256 ^ (l.take (i + 1)).length ≤ 256 ^ (i + 1) := Nat.pow_le_pow_right (by omega) (by simp; omega)
      have h3 := pow256_le (i := i + 1) (by omega)
      omega
    refine ziq (zfq (zcq (zmq (zbq (zaq rfl rfl (zyq (256 * numB (l.take i)) rfl rfl (by first | rfl | omega) ⟨by omega, by omega⟩ ?_))))))
    refine zaq rfl rfl (zaq rfl rfl (zaq rfl (z7q (i := i) rfl rfl rfl rfl rfl rfl rfl (x7q hc)) (zeq rfl rfl (zyq (c.toNat) rfl rfl (by first | rfl | omega) ⟨by omega, by omega⟩ ?_))))
    refine zyq (numB (l.take (i + 1))) rfl rfl (by rw [ht]; omega) ⟨by omega, by omega⟩ ?_
    refine zaq rfl rfl (zdq ?_)
    refine zrq (by intro i h; cases h) ?_
    refine zfq (zbq (zaq rfl rfl (zyq (i + 1) rfl rfl (by first | rfl | omega) ⟨by omega, by omega⟩ ?_)))
    refine zaq rfl rfl (zdq ?_)
    exact ykq (i + 1) (hi) (by omega) ⟨rfl, rfl, trivial⟩ ⟨rfl, rfl, trivial⟩ (by repeat (first | exact trivial | refine ⟨by first | rfl | exact zwq (by first | rfl | (simp; done)), ?_⟩)) (by omega) (by repeat (first | exact zOq | refine zRq (by omega) ?_ | refine zPq (by omega) ?_ | refine zQq (by omega) ?_)) rfl
  · have hi : i = l.length := by omega
    subst hi
    rw [List.take_length]
    refine ytq ?_
    refine zlq (by intro h; cases h) ?_
    refine yhq (by intro h; cases h) ?_
    refine qoq (zfq (zcq (zbq (zaq rfl rfl (zaq rfl rfl (zdq ?_))))))
    refine zfq (zjq ?_)
    exact znq (.inr rfl) rfl rfl
theorem rdigits_s (n size : Nat) (hn : n < 18446744073709551616) (hs8 : size ≤ 8) : qFq cfg G 84 0 [.int .u64 (n : Int), .int .i64 (size : Int)] [] fun w hp nw =>
    w = .tup [.sl 0 0 0 size 1 none, .bool (decide (n / 256 ^ size = 0))] ∧ hp = [(0, 5, .arr (size * 1) 1 (zBq (beB size n)))] ∧ nw = 1 := by
  intro R
  refine yrq (fn := Try.f84) rfl rfl rfl (Nat.le_of_ble_eq_true rfl) (fun k0 => ?_)
  refine zcq (zbq (zaq rfl rfl (zaq rfl rfl (zdq ?_))))
  refine zfq (zcq (zbq (zaq rfl rfl (zeq rfl (Yxq (l := size) (c := size) rfl rfl rfl rfl rfl rfl rfl rfl (Nat.le_refl _) (by show 1 * size ≤ _; omega) (by omega) rfl rfl) ?_))))
  refine zaq rfl rfl (zdq ?_)
  refine zfq (zcq (zcq (zbq (zaq rfl rfl ?_))))
  refine op_z ((size : Int) - 1 - ((0 : Nat) : Int)) rfl rfl (by omega) ⟨by omega, by omega⟩ ?_
  refine zaq rfl rfl (zdq ?_)
  refine zfq (zmq ?_)
  refine vdq (α := Nat × Nat) (fun p => p.1 ≤ size ∧ p.2 = n / 256 ^ p.1) (fun p => [(7, .int .i64 ((size : Int) - 1 - (p.1 : Int))), (0, .int .u64 (p.2 : Nat))]) [(4, _), (5, _), (6, _)] (fun p => [(0, 5, .arr (size * 1) 1 (zBq (List.replicate (size - p.1) 0 ++ beB p.1 n)))]) (fun p => size - p.1) ((0, n)) ⟨rfl, rfl, rfl, trivial⟩ (⟨Nat.zero_le _, by simp⟩) ⟨rfl, rfl, trivial⟩ (by simp only [be_zero]; rfl) (fun p hI => ?_)
  obtain ⟨i, q⟩ := p
  obtain ⟨g1, g2⟩ := hI
  simp only at g1 g2 ⊢
  have hlt : q < 18446744073709551616 := by rw [g2]; exact Nat.lt_of_le_of_lt (Nat.div_le_self _ _) hn
  refine zcq (zcq (zbq (zaq rfl rfl (zCq rfl rfl ?_))))
  refine zdq ?_
  refine zfq ?_
  refine zEq rfl (fun h1 => ?_) (fun h1 => ?_)
  · have hi : i < size := by omega
    have hq : q / 256 = n / 256 ^ (i + 1) := by rw [g2, Nat.div_div_eq_div_mul, ← Nat.pow_succ]
    have hset := be_set n size i hi
    rw [← g2] at hset
    refine ziq (zfq (zcq (zmq (zcq (zbq (zaq rfl rfl (zNq (w' := .int .i64 ((size - 1 - i : Nat) : Int)) rfl rfl (by congr 1; omega) ?_)))))))
    refine zaq rfl rfl (zNq (w' := .int .u64 ((q % 256 : Nat) : Int)) rfl rfl (congrArg (W.int .u64) (kVq q 256)) (zyq (q % 256) rfl rfl (by first | rfl | omega) ⟨by omega, by omega⟩ ?_))
    refine zaq rfl (yiq (i := size - 1 - i) rfl rfl rfl rfl rfl rfl rfl (by omega)) ?_
    refine zeq rfl (uIq rfl rfl rfl rfl rfl (kXq (be_at n size i hi) rfl rfl) (congrArg (fun L => [(0, 5, W.arr (size * 1) 1 L)]) hset)) (zdq ?_)
    refine zfq (zbq (zaq rfl rfl (zyq (q / 256) rfl rfl (j5q q 256) ⟨by omega, by omega⟩ ?_)))
    refine zaq rfl rfl (zdq ?_)
    refine zrq (by intro i h; cases h) ?_
    refine zfq (zbq (zaq rfl rfl ?_))
    refine op_z ((size : Int) - 1 - ((i + 1 : Nat) : Int)) rfl rfl (by omega) ⟨by omega, by omega⟩ ?_
    refine zaq rfl rfl (zdq ?_)
    exact Ynq ((i + 1, q / 256)) (⟨hi, hq⟩) (by simp only; omega) ⟨rfl, rfl, trivial⟩ ⟨rfl, rfl, rfl, trivial⟩ rfl
  · have hi : i = size := by omega
    subst hi
    refine ytq ?_
    refine zlq (by intro h; cases h) ?_
    refine q_out (by intro h; cases h) ?_
    refine qoq (zfq (zcq (zbq (zaq rfl rfl (zaq rfl rfl (zNq (w' := .bool (decide (n / 256 ^ i = 0))) rfl rfl (congrArg W.bool (by rw [Bool.eq_iff_iff, eqI_iff, decide_eq_true_iff, ← g2]; omega)) ?_))))))
    refine zaq rfl rfl (zaq rfl rfl (zdq ?_))
    refine zfq (zjq ?_)
    refine fin (.inr rfl) Ent.refl rfl ⟨rfl, rfl, ?_, rfl⟩
    rw [Nat.sub_self]
    rfl
theorem rabytes_s (a : Acct) (h : a.ok) : PS cfg G 67 [aW a] (bW (qwq a)) := by
  have h1 : a.nonce < 18446744073709551616 := h.1
  have h2 : a.balance < 18446744073709551616 := h.2
  refine ynq (fn := Try.f67) rfl rfl rfl (Nat.le_of_ble_eq_true rfl) (fun R k0 => ?_)
  have l1 : (zBq (beB 8 a.nonce)).length = 8 := by rw [yoq, uCq]
  have l2 : (zBq (beB 8 a.balance)).length = 8 := by rw [yoq, uCq]
  refine zcq (zbq (zeq rfl rfl (zaq rfl rfl (zdq ?_))))
  refine zfq (zcq (zbq (zaq rfl rfl (zeq rfl rfl ?_))))
  ((refine zYq rfl (vjq rfl rfl rfl rfl rfl rfl (rdigits_s _ 8 (by assumption) (by omega)) ?_); rintro w hp1 nw1 ⟨rfl, rfl, rfl⟩))
  refine zaq rfl rfl (zaq rfl rfl (zaq rfl rfl (zaq rfl rfl (zaq rfl rfl (zdq ?_)))))
  refine zfq (zcq (zbq (zaq rfl rfl (zeq rfl rfl ?_))))
  ((refine zYq rfl (vjq rfl rfl rfl rfl rfl rfl (rdigits_s _ 8 (by assumption) (by omega)) ?_); rintro w hp1 nw1 ⟨rfl, rfl, rfl⟩))
  refine zaq rfl rfl (zaq rfl rfl (zaq rfl rfl (zaq rfl rfl (zaq rfl rfl (zdq ?_)))))
  refine zfq (zcq (zbq (zaq rfl rfl (zaq rfl rfl (zeq rfl (jBq rfl rfl (uWq (k := ti5) (len := 8) (news := zBq (beB 8 a.balance)) (olds := zBq (beB 8 a.nonce)) rfl rfl rfl rfl (jRq rfl rfl rfl (jrq (n := 8) (m := 8) l2.symm rfl)) (by intro h; rw [h] at l2; simp at l2) (by rw [l2]; decide) (by rw [l2]; decide) rfl (by show 8 * 1 < 0 + (8 + (zBq (beB 8 a.balance)).length) * 1; rw [l2]; omega) rfl (jrq (n := 8) (m := 8) l1.symm rfl))) ?_)))))
  refine zaq rfl rfl (zdq ?_)
  refine zfq (zjq ?_)
  refine kOq (fr2 := [(2, bW (qwq a))]) (.inr rfl) ⟨⟨_, rfl, .sl (xs := zBq (qwq a)) rfl (by simp) ?_ (by intro h; cases h)⟩, trivial⟩ rfl rfl
  rw [qwq, k3q, l2]
  exact jrq (n := 16) (by rw [List.length_append, l1, l2]) rfl
theorem raread_s (l : List UInt8) (f : Bool) : PS cfg G 64 [.fz (zBq l) 1 f] (.tup [aW (qeq l).1, .int .i64 ((qeq l).2 : Nat)]) := by
  have e := yoq l
  refine uLq (fn := Try.f64) rfl rfl rfl (Nat.le_of_ble_eq_true rfl) (fun R k0 => ?_)
  refine zcq (zbq (zeq rfl rfl (zaq rfl rfl (zdq ?_))))
  refine zfq (zcq (zcq (zbq (zaq rfl rfl (zNq (w' := .int .i64 (l.length : Int)) rfl rfl (by rw [← e]; rfl) ?_)))))
  refine zCq rfl rfl ?_
  refine zdq ?_
  refine zfq ?_
  refine zEq rfl (fun h1 => ?_) (fun h1 => ?_)
  · have q : qeq l = (.zero, 10) := by unfold qeq; rw [if_pos (by omega)]
    rw [q]
    refine zcq (zbq (zaq rfl rfl (zeq rfl rfl (zaq rfl rfl (zdq ?_)))))
    refine zfq (zjq ?_)
    refine zlq (by intro h; cases h) ?_
    refine xyq (by first | exact .inr rfl | exact .inl rfl) rfl ?_
    (repeat (first | exact .nil | refine .cons ?_ ?_ | exact qIq | exact .nilfz | refine .fn ?_ ?_ | (refine qlq rfl ?_ rfl; (first | rfl | (focus (simp; done)))) | (refine .sl rfl ?_ rfl (by intro h; cases h); (first | rfl | (focus (simp; done)))) | (refine .pur ?_; (first | rfl | (focus (simp; done)))) | (refine .fzw ?_; (first | rfl | (focus (simp; done)))) | refine .agg ?_ | refine .arr ?_ | refine .tup ?_))
  refine ziq (zfq (zcq (zcq (zbq (zaq rfl rfl (zNq (w' := .int .i64 (l.length : Int)) rfl rfl (by rw [← e]; rfl) ?_))))))
  refine zCq rfl rfl ?_
  refine zdq ?_
  refine zfq ?_
  refine zEq rfl (fun h2 => ?_) (fun h2 => ?_)
  · have q : qeq l = (.zero, 11) := by unfold qeq; rw [if_neg (by omega), if_pos (by omega)]
    rw [q]
    refine zcq (zbq (zaq rfl rfl (zeq rfl rfl (zaq rfl rfl (zdq ?_)))))
    refine zfq (zjq ?_)
    refine zlq (by intro h; cases h) ?_
    refine xyq (by first | exact .inr rfl | exact .inl rfl) rfl ?_
    (repeat (first | exact .nil | refine .cons ?_ ?_ | exact qIq | exact .nilfz | refine .fn ?_ ?_ | (refine qlq rfl ?_ rfl; (first | rfl | (focus (simp; done)))) | (refine .sl rfl ?_ rfl (by intro h; cases h); (first | rfl | (focus (simp; done)))) | (refine .pur ?_; (first | rfl | (focus (simp; done)))) | (refine .fzw ?_; (first | rfl | (focus (simp; done)))) | refine .agg ?_ | refine .arr ?_ | refine .tup ?_))
  have hl : l.length = 16 := by omega
  have q : qeq l = if (⟨numB (l.take 8), numB (l.drop 8)⟩ : Acct) = .zero then (.zero, 8) else (⟨numB (l.take 8), numB (l.drop 8)⟩, 0) := by unfold qeq; rw [if_neg (by omega), if_neg (by omega)]
  rw [q]
  refine ziq (zfq (zcq (zZq (zhq rfl rfl (zhq rfl (uUq (ys := zBq (l.take 8)) (l := 0) (h := 8) rfl rfl rfl rfl rfl rfl rfl (by omega) (by omega) (by rw [List.drop_zero, v9q]) rfl) ?_)))))
  refine qUq rfl rfl rfl rfl rfl rfl (rnumber_s _ _ (by simp; omega)) ?_
  refine zhq rfl rfl (zhq rfl (uUq (ys := zBq (l.drop 8)) (l := 8) (h := (zBq l).length) rfl rfl rfl rfl rfl rfl rfl (by omega) (Nat.le_refl _) (by rw [List.take_of_length_le (by simp), Zaq]) rfl) ?_)
  refine qUq rfl rfl rfl rfl rfl rfl (rnumber_s _ _ (by simp; omega)) ?_
  refine zhq rfl rfl (zDq rfl rfl ?_)
  refine zDq rfl rfl ?_
  refine z6q ?_
  refine zfq (zcq (zcq (zbq (zaq rfl rfl (zeq rfl rfl ?_)))))
  refine y3q rfl rfl (fun h3 => ?_) (fun h3 => ?_)
  · have z1 : numB (l.take 8) = 0 := by omega
    refine zaq rfl rfl (zaq rfl rfl (zeq rfl rfl (zCq rfl rfl ?_)))
    refine zaq rfl rfl (zdq ?_)
    refine zfq ?_
    refine zEq rfl (fun h4 => ?_) (fun h4 => ?_)
    · have z2 : numB (l.drop 8) = 0 := by omega
      rw [if_pos (by rw [z1, z2]; rfl)]
      refine zcq (zbq (zaq rfl rfl (zeq rfl rfl (zaq rfl rfl (zdq ?_)))))
      refine zfq (zjq ?_)
      refine zlq (by intro h; cases h) ?_
      refine xyq (by first | exact .inr rfl | exact .inl rfl) rfl ?_
      (repeat (first | exact .nil | refine .cons ?_ ?_ | exact qIq | exact .nilfz | refine .fn ?_ ?_ | (refine qlq rfl ?_ rfl; (first | rfl | (focus (simp; done)))) | (refine .sl rfl ?_ rfl (by intro h; cases h); (first | rfl | (focus (simp; done)))) | (refine .pur ?_; (first | rfl | (focus (simp; done)))) | (refine .fzw ?_; (first | rfl | (focus (simp; done)))) | refine .agg ?_ | refine .arr ?_ | refine .tup ?_))
    · have z2 : ¬ numB (l.drop 8) = 0 := by omega
      rw [if_neg fun h => z2 (by injection h)]
      refine ziq (zfq (zcq (zbq (zeq rfl rfl (zeq rfl rfl (zaq rfl rfl (zdq ?_)))))))
      refine zfq (zjq ?_)
      refine xyq (by first | exact .inr rfl | exact .inl rfl) rfl ?_
      (repeat (first | exact .nil | refine .cons ?_ ?_ | exact qIq | exact .nilfz | refine .fn ?_ ?_ | (refine qlq rfl ?_ rfl; (first | rfl | (focus (simp; done)))) | (refine .sl rfl ?_ rfl (by intro h; cases h); (first | rfl | (focus (simp; done)))) | (refine .pur ?_; (first | rfl | (focus (simp; done)))) | (refine .fzw ?_; (first | rfl | (focus (simp; done)))) | refine .agg ?_ | refine .arr ?_ | refine .tup ?_))
  · have z1 : ¬ numB (l.take 8) = 0 := by omega
    rw [if_neg fun h => z1 (by injection h)]
    refine zaq rfl rfl (zgq rfl (zgq rfl (zgq rfl (zaq rfl rfl (zdq ?_)))))
    refine zfq (zAq rfl (ziq (zfq (zcq (zbq (zeq rfl rfl (zeq rfl rfl (zaq rfl rfl (zdq ?_)))))))))
    refine zfq (zjq ?_)
    refine xyq (by first | exact .inr rfl | exact .inl rfl) rfl ?_
    (repeat (first | exact .nil | refine .cons ?_ ?_ | exact qIq | exact .nilfz | refine .fn ?_ ?_ | (refine qlq rfl ?_ rfl; (first | rfl | (focus (simp; done)))) | (refine .sl rfl ?_ rfl (by intro h; cases h); (first | rfl | (focus (simp; done)))) | (refine .pur ?_; (first | rfl | (focus (simp; done)))) | (refine .fzw ?_; (first | rfl | (focus (simp; done)))) | refine .agg ?_ | refine .arr ?_ | refine .tup ?_))
def HeldB (ps : List Pr) : Prop := ∀ p ∈ ps, (qeq p.2).2 = 0
noncomputable instance (ps : List Pr) : Decidable (HeldB ps) := Classical.propDecidable _
theorem rheld_s (ps : List Pr) (f : Bool) (hb : ps.length ≤ 1000000000) : PS cfg G 63 [.fz (ps.map pW) 33 f] (.bool (decide (HeldB ps))) := by
  have e : (ps.map pW).length = ps.length := List.length_map _
  refine ynq (fn := Try.f63) rfl rfl rfl (Nat.le_of_ble_eq_true rfl) (fun R k0 => ?_)
  refine zcq (zbq (zaq rfl rfl (zdq ?_)))
  refine zfq (zcq (zcq (zbq (zaq rfl rfl (zdq ?_)))))
  refine zfq (zmq ?_)
  refine ySq (α := Nat) (fun i => i ≤ ps.length ∧ ∀ j x, j < i → ps[j]? = some x → (qeq x.2).2 = 0) (fun i => [(3, .int .i64 (i : Int))]) [(0, _), (2, _)] (fun i => ps.length - i) (0) ⟨rfl, rfl, trivial⟩ (⟨Nat.zero_le _, fun j x h => by omega⟩) ⟨rfl, trivial⟩ (fun i hI => ?_)
  obtain ⟨g1, g2⟩ := hI
  refine zcq (zcq (zbq (zaq rfl rfl (zaq rfl rfl (zNq (w' := .int .i64 (ps.length : Int)) rfl rfl (by rw [← e]; rfl) ?_)))))
  refine zCq rfl rfl ?_
  refine zdq ?_
  refine zfq ?_
  refine zEq rfl (fun h1 => ?_) (fun h1 => ?_)
  · have hi : i < ps.length := by omega
    obtain ⟨x, hx⟩ : ∃ x, ps[i]? = some x := ⟨_, List.getElem?_eq_getElem hi⟩
    refine ziq (zfq (zcq (zmq (zcq (zbq (zaq rfl rfl (zaq rfl rfl (zaq rfl (z7q (i := i) rfl rfl rfl rfl rfl rfl rfl (yLq pW hx)) (zaq rfl rfl (zeq rfl rfl (ztq rfl rfl rfl rfl rfl rfl (raread_s _ _) ?_)))))))))))
    refine zaq rfl rfl (zaq rfl rfl (zaq rfl rfl (zeq rfl rfl (zeq rfl rfl (zaq rfl rfl (zdq ?_))))))
    refine zfq (zcq (zbq (zaq rfl rfl (zCq rfl rfl ?_))))
    refine zdq ?_
    refine zfq ?_
    refine zEq rfl (fun h2 => ?_) (fun h2 => ?_)
    · refine zcq (zbq (zaq rfl rfl (zdq ?_)))
      refine zfq (zjq ?_)
      refine zrq (by intro i h; cases h) ?_
      refine zlq (by intro h; cases h) ?_
      refine yhq (by intro h; cases h) ?_
      refine zrq (by intro i h; cases h) ?_
      refine zlq (by intro h; cases h) ?_
      have hno : ¬ HeldB ps := fun h => by have := h x (List.mem_of_getElem? hx); omega
      exact znq (.inr rfl) rfl (by rw [decide_eq_false hno])
    · have h0 : (qeq x.2).2 = 0 := by omega
      refine ziq (zrq (by intro i h; cases h) ?_)
      refine zfq (zbq (zaq rfl rfl (zyq (i + 1) rfl rfl (by first | rfl | omega) ⟨by omega, by omega⟩ ?_)))
      refine zaq rfl rfl (zdq ?_)
      exact ykq (i + 1) (⟨hi, fun j y hj hy => by rcases Nat.lt_succ_iff_lt_or_eq.1 hj with q | rfl; exact g2 j y q hy; have := Option.some.inj (hx.symm.trans hy); subst this; exact h0⟩) (by omega) ⟨rfl, trivial⟩ ⟨rfl, rfl, trivial⟩ (by repeat (first | exact trivial | refine ⟨by first | rfl | exact zwq (by first | rfl | (simp; done)), ?_⟩)) (by omega) (by repeat (first | exact zOq | refine zRq (by omega) ?_ | refine zPq (by omega) ?_ | refine zQq (by omega) ?_)) rfl
  · refine ytq ?_
    refine zlq (by intro h; cases h) ?_
    refine yhq (by intro h; cases h) ?_
    refine qoq (zfq (zcq (zbq (zaq rfl rfl (zdq ?_)))))
    refine zfq (zjq ?_)
    have yes : HeldB ps := fun p hp => by
      obtain ⟨j, hj⟩ := List.getElem?_of_mem hp
      have := (List.getElem?_eq_some_iff.1 hj).1
      exact g2 j p (by omega) hj
    exact znq (.inr rfl) rfl (by rw [decide_eq_true yes])
theorem mayA_iff {t : Tree} {n : Nat} {t0 : T} (h : IsT t n t0) : MayA t ↔ HeldB t0.all := by
  constructor
  · rintro ⟨n', t', h'⟩
    have hn : n = n' := by have := h.root; have := h'.root; omega
    subst hn
    rw [h.rep.uniq h'.rep]
    exact h'.held
  · exact fun q => ⟨n, t0, h, q⟩
theorem mayA_T {t : Tree} (h : MayA t) : MayT t := by obtain ⟨n, t0, h⟩ := h; exact h.toIsT.may
theorem ramay_s (t : Tree) (hb : t.nodes.length ≤ 4611686018427387903) : PS cfg G 37 [tW t] (.bool (decide (MayA t))) := by
  by_cases hT : MayT t
  · obtain ⟨n, t0, h⟩ := may_is hT
    have hl : t0.all.length ≤ 1000000000 := by have := h.all_le; have := h.len; omega
    have h2 : decide (MayA t) = decide (HeldB t0.all) := decide_eq_decide.2 (mayA_iff h)
    rw [h2]
    refine ynq (fn := Try.f37) rfl rfl rfl (Nat.le_of_ble_eq_true rfl) (fun R k0 => ?_)
    refine zcq (zbq (zeq rfl rfl (zaq rfl rfl (zdq ?_))))
    refine zfq (zcq (zbq (zeq rfl rfl (ztq rfl rfl rfl rfl rfl rfl (y2q (w' := .bool true) (rmay_s t hb) (by rw [decide_eq_true hT])) ?_))))
    refine k6q (fun h1 => ?_) (fun h1 => ?_)
    · refine zaq rfl rfl (zeq rfl rfl (ztq rfl rfl rfl rfl rfl rfl (rall_s t n t0 h) ?_))
      refine ztq rfl rfl rfl rfl rfl rfl (rheld_s _ _ (by assumption)) ?_
      refine zaq rfl rfl (zaq rfl rfl (zdq ?_))
      refine zfq (zjq ?_)
      exact znq (.inr rfl) rfl rfl
    · exfalso; exact h1 rfl
  · have h2 : decide (MayA t) = false := decide_eq_false fun h => hT (mayA_T h)
    rw [h2]
    refine ynq (fn := Try.f37) rfl rfl rfl (Nat.le_of_ble_eq_true rfl) (fun R k0 => ?_)
    refine zcq (zbq (zeq rfl rfl (zaq rfl rfl (zdq ?_))))
    refine zfq (zcq (zbq (zeq rfl rfl (ztq rfl rfl rfl rfl rfl rfl (y2q (w' := .bool false) (rmay_s t hb) (by rw [decide_eq_false hT])) ?_))))
    refine k6q (fun h1 => ?_) (fun h1 => ?_)
    · exfalso; cases h1
    · refine zaq rfl rfl (zgq rfl (zgq rfl (zgq rfl (zaq rfl rfl (zaq rfl rfl (zdq ?_))))))
      refine zfq (zjq ?_)
      exact znq (.inr rfl) rfl rfl
theorem idx_find (k : Dig) : ∀ ps : List Pr, (∃ (i : Nat) (x : Pr), ps[i]? = some x ∧ idxP ps k = i ∧ xvq ps k = some x.2) ∨ (idxP ps k = -1 ∧ xvq ps k = none)
  | [] => .inr ⟨rfl, rfl⟩
  | p :: ps => by
    by_cases e : p.1 = k
    · refine .inl ⟨0, p, rfl, ?_, ?_⟩
      · simp [idxP, List.findIdx?_cons, e]
      · simp [xvq, e]
    · rcases idx_find k ps with ⟨i, x, h1, h2, h3⟩ | ⟨h1, h2⟩
      · refine .inl ⟨i + 1, x, by simpa using h1, ?_, ?_⟩
        · unfold idxP at h2 ⊢
          rw [List.findIdx?_cons]
          simp only [e, decide_false, Bool.false_eq_true, if_false]
          cases hq : ps.findIdx? (fun p => decide (p.1 = k)) with
          | none => rw [hq] at h2; exfalso; simp only at h2; omega
          | some j => rw [hq] at h2; simp only [Option.map_some] at h2 ⊢; omega
        · rw [← h3]; simp [xvq, e]
      · refine .inr ⟨?_, ?_⟩
        · unfold idxP at h1 ⊢
          rw [List.findIdx?_cons]
          simp only [e, decide_false, Bool.false_eq_true, if_false]
          cases hq : ps.findIdx? (fun p => decide (p.1 = k)) with
          | none => rfl
          | some j => rw [hq] at h1; simp only at h1; omega
        · rw [← h2]; simp [xvq, e]
def inA (ps : List Pr) (k : Dig) : Acct := match xvq ps k with
  | some v => (qeq v).1
  | none => .zero
theorem rin_s (ps : List Pr) (f : Bool) (k : Dig) (hb : ps.length ≤ 1000000000) : PS cfg G 38 [.fz (ps.map pW) 33 f, dW k] (aW (inA ps k)) := by
  rcases idx_find k ps with ⟨i, x, q1, q2, q3⟩ | ⟨q1, q2⟩
  · have e : inA ps k = (qeq x.2).1 := by unfold inA; rw [q3]
    have hi := (List.getElem?_eq_some_iff.1 q1).1
    rw [e]
    refine ynq (fn := Try.f38) rfl rfl rfl (Nat.le_of_ble_eq_true rfl) (fun R k0 => ?_)
    refine zcq (zbq (zeq rfl rfl (zeq rfl rfl (zdq ?_))))
    refine zfq (zcq (zbq (zaq rfl rfl (zeq rfl rfl (ztq rfl rfl rfl rfl rfl rfl (y2q (w' := .int .i64 (i : Int)) (rfind_s ps f k hb) (by rw [q2])) ?_)))))
    refine zaq rfl rfl (zdq ?_)
    refine zfq (zcq (zcq (zbq (zaq rfl rfl (zCq rfl rfl ?_)))))
    refine zdq ?_
    refine zfq ?_
    refine zEq rfl (fun h1 => ?_) (fun h1 => ?_)
    · exfalso; omega
    · refine ziq (zfq (zcq (zbq (zaq rfl rfl (zaq rfl rfl (zaq rfl (z7q (i := i) rfl rfl rfl rfl rfl rfl rfl (yLq pW q1)) (zaq rfl rfl (zeq rfl rfl (ztq rfl rfl rfl rfl rfl rfl (raread_s _ _) ?_)))))))))
      refine zaq rfl rfl (zaq rfl rfl (zaq rfl rfl (zeq rfl rfl (zeq rfl rfl (zaq rfl rfl (zdq ?_))))))
      refine zfq (zcq (zbq (zeq rfl rfl (zeq rfl rfl (zdq ?_)))))
      refine zfq (zjq ?_)
      exact znq (.inr rfl) rfl rfl
  · have e : inA ps k = .zero := by unfold inA; rw [q2]
    rw [e]
    refine ynq (fn := Try.f38) rfl rfl rfl (Nat.le_of_ble_eq_true rfl) (fun R k0 => ?_)
    refine zcq (zbq (zeq rfl rfl (zeq rfl rfl (zdq ?_))))
    refine zfq (zcq (zbq (zaq rfl rfl (zeq rfl rfl (ztq rfl rfl rfl rfl rfl rfl (y2q (w' := .int .i64 (-1)) (rfind_s ps f k hb) (by rw [q1])) ?_)))))
    refine zaq rfl rfl (zdq ?_)
    refine zfq (zcq (zcq (zbq (zaq rfl rfl (zCq rfl rfl ?_)))))
    refine zdq ?_
    refine zfq ?_
    refine zEq rfl (fun h1 => ?_) (fun h1 => ?_)
    · refine zcq (zbq (zaq rfl rfl (zeq rfl rfl (zdq ?_))))
      refine zfq (zjq ?_)
      refine zlq (by intro h; cases h) ?_
      exact znq (.inr rfl) rfl rfl
    · exfalso; omega
end Go.Proofs.Ytgeelfdgnehdnaa
namespace Go.Proofs.Ytgeelfdgnehdnaa
open Go.RowKit
set_option linter.unusedSimpArgs false
set_option linter.unusedVariables false
attribute [local irreducible] CoW OpW FlW Step Spec
variable {G : Nat → Option W}
theorem acct_in {t : Tree} {n : Nat} {t0 : T} (h : IsT t n t0) (k : Dig) : qfq t0 k = inA t0.all k := by
  unfold qfq inA
  rw [kMq k j2q h.ok]
  cases xvq t0.all k <;> rfl
theorem IsT.le {t : Tree} {n : Nat} {t0 : T} (h : IsT t n t0) : t0.all.length ≤ 262144 := Nat.le_trans h.all_le h.len
theorem IsT.vle {t : Tree} {n : Nat} {t0 : T} (h : IsT t n t0) : ∀ x ∈ t0.all, x.2.length ≤ 70368744177664 := fun x hx => by have := (h.val x hx).2; omega
noncomputable def Zlq (ps : List Pr) (k : Dig) (a : Acct) : List Pr := if a = .zero then ycq ps k else withR ps k (qwq a)
theorem withA_set {l : List Pr} (h : Srt l) (k : Dig) (a : Acct) : Zlq l k a = setL l k a := by
  unfold Zlq setL
  rw [withR_eq h]
theorem acct_zero {a : Acct} : a = .zero ↔ a.nonce = 0 ∧ a.balance = 0 := by cases a; simp [Acct.zero]
theorem rawith_s (ps : List Pr) (f : Bool) (k : Dig) (a : Acct) (ha : a.ok) (hb : ps.length ≤ 1000000) (hv : ∀ x ∈ ps, x.2.length ≤ 70368744177664) : PS cfg G 40 [.fz (ps.map pW) 33 f, dW k, aW a] (psW (Zlq ps k a)) := by
  have lb := Z0q a
  refine ynq (fn := Try.f40) rfl rfl rfl (Nat.le_of_ble_eq_true rfl) (fun R k0 => ?_)
  refine zcq (zbq (zeq rfl rfl (zeq rfl rfl (zaq rfl rfl (zdq ?_)))))
  refine zfq (zcq (zcq (zbq (zaq rfl rfl (zeq rfl rfl ?_)))))
  refine y3q rfl rfl (fun h1 => ?_) (fun h1 => ?_)
  · refine zaq rfl rfl (zaq rfl rfl (zeq rfl rfl (zCq rfl rfl ?_)))
    refine zaq rfl rfl (zdq ?_)
    refine zfq ?_
    refine zEq rfl (fun h2 => ?_) (fun h2 => ?_)
    · have hz : a = .zero := acct_zero.2 ⟨by omega, by omega⟩
      refine zcq (zbq (zaq rfl rfl (zeq rfl rfl (ztq rfl rfl rfl rfl rfl rfl (ZCq ps f k (by omega) hv) ?_))))
      refine zaq rfl rfl (zdq ?_)
      refine zfq (zjq ?_)
      refine zlq (by intro h; cases h) ?_
      exact znq (.inr rfl) rfl (by unfold Zlq; rw [if_pos hz])
    · have hz : ¬ a = .zero := fun q => by have := acct_zero.1 q; omega
      refine ziq (zfq (zcq (zZq (zhq rfl rfl (zDq rfl rfl ?_)))))
      refine zDq rfl rfl ?_
      refine qUq rfl rfl rfl rfl rfl rfl (rabytes_s _ (by assumption)) ?_
      refine qUq rfl rfl rfl rfl rfl rfl (rwith_s ps f false k (qwq a) hb hv (by omega)) ?_
      refine zhq rfl rfl (z6q ?_)
      refine zfq (zjq ?_)
      exact znq (.inr rfl) rfl (by unfold Zlq; rw [if_neg hz])
  · have hz : ¬ a = .zero := fun q => by have := acct_zero.1 q; omega
    refine zaq rfl rfl (zgq rfl (zgq rfl (zgq rfl (zaq rfl rfl (zdq ?_)))))
    refine zfq (zAq rfl (ziq (zfq (zcq (zZq (zhq rfl rfl (zDq rfl rfl ?_)))))))
    refine zDq rfl rfl ?_
    refine qUq rfl rfl rfl rfl rfl rfl (rabytes_s _ (by assumption)) ?_
    refine qUq rfl rfl rfl rfl rfl rfl (rwith_s ps f false k (qwq a) hb hv (by omega)) ?_
    refine zhq rfl rfl (z6q ?_)
    refine zfq (zjq ?_)
    exact znq (.inr rfl) rfl (by unfold Zlq; rw [if_neg hz])
end Go.Proofs.Ytgeelfdgnehdnaa
namespace Go.Proofs.Ytgeelfdgnehdnaa
open Go.RowKit
set_option linter.unusedSimpArgs false
set_option linter.unusedVariables false
attribute [local irreducible] CoW OpW FlW Step Spec
variable {G : Nat → Option W}
def StA (w0 : W) (P : Tree → T → Prop) : W → HpW → Nat → Prop := fun w hp nw => ∃ t n t0, IsA t n t0 ∧ P t t0 ∧ w = w0 ∧ hp = [(0, 92, tW t)] ∧ nw = 1
theorem fin_st {k0 : Nat} {rs : List ResultVar} {x : Exit} {fr : FrW} {hp : HpW} {nw : Nat} {R : Res} {w0 : W} {P : Tree → T → Prop} {t : Tree} {n : Nat} {t0 : T} (fr2 : FrW) (hx : x = .normal ∨ x = .ret) (hf : subF fr fr2) (hr : fr2.all (fun p => refB 1 p.2) = true) (hn : 1 ≤ nw) (hh : hget hp 0 = some (92, tW t)) (ho : outW cfg fr2 [(0, 92, tW t)] rs = some w0) (h : IsA t n t0) (hP : P t t0) :
    QFin cfg G 1 k0 rs (fun w hp nw R' => R' = R ∧ StA w0 P w hp nw) x fr hp nw R :=
  fin hx (uwq (nw2 := 1) (hp2 := [(0, 92, tW t)]) (Nat.le_refl 1) hn hf hr (fun b x hb => by
    match b, hb with
    | 0, hb => cases hb; exact ⟨by omega, hh, zwq (tW_pur t)⟩
    | b + 1, hb => cases hb) (by simp)) ho ⟨rfl, t, n, t0, h, hP, rfl, rfl, rfl⟩
theorem step_st {o : Oper} {fr : FrW} {hp : HpW} {nw : Nat} {R : Res} {post : W → HpW → Nat → Res → Option EvW → Prop} {x : Operand} {xs : Array Operand} {ats : Array TypeId} {f : FuncId} {us : List W} {t : Tree} {w0 : W} {P : Tree → T → Prop} (j : Nat)
    (ho : o.op = .call ⟨.value x, xs, ats⟩) (hx : evW cfg G fr x = some (.fn f [] [])) (he : cfg.ext f = none) (hxs : evLW cfg G fr xs.toList = some (.ptr j 0 :: us)) (hpu : purL us = true) (hj : j < nw) (hw0 : purW w0 = true)
    (h0 : hget hp j = some (92, tW t)) (sp : qFq cfg G f 1 (.ptr 0 0 :: us) [(0, 92, tW t)] (StA w0 P))
    (hpost : ∀ t' n' t1, IsA t' n' t1 → P t' t1 → post w0 ((j, 92, tW t') :: delA [j] hp) nw R (some .dirty)) : Step cfg G o fr hp nw R post := by
  refine q7q (ext := [j]) (ws := .ptr 0 0 :: us) ho hx he hxs ?_ sp (by simp) ?_ (by simp) (handed1 (by rw [ysq (tW_pur t)]; exact h0) (zwq (tW_pur t))) ?_ ?_
  · show .ptr j 0 :: (us ++ []) = W.ptr j 0 :: y5q (numC [j] nw) us
    rw [jvq hpu, List.append_nil]
  · intro b hb
    simp only [List.mem_cons, List.not_mem_nil, or_false] at hb
    omega
  · have h := zwq (m := 1) (w := .tup us) hpu
    have h : refL 1 us = true := h
    show (refB 1 (.ptr 0 0) && refL 1 us) = true
    rw [h]; rfl
  · rintro w hp1 nw1 ⟨t', n', t1, h1, h2, rfl, rfl, rfl⟩
    have e : renH (numC [j] nw) [(0, 92, tW t')] = [(j, 92, tW t')] := by
      simp only [renH, ysq (tW_pur t')]; rfl
    have h := hpost t' n' t1 h1 h2
    rw [e, ysq hw0]
    exact h
theorem asked_s (t : Tree) (hb : t.nodes.length ≤ 4611686018427387903) : PS cfg G 47 [tW t] (.int .i64 (if MayA t then 0 else 8)) := by
  refine ynq (fn := Try.f47) rfl rfl rfl (Nat.le_of_ble_eq_true rfl) (fun R k0 => ?_)
  refine zcq (zbq (zeq rfl rfl (zaq rfl rfl (zdq ?_))))
  refine zfq (zcq (zbq (zeq rfl rfl (ztq rfl rfl rfl rfl rfl rfl (jHq t hb) ?_))))
  refine zaq rfl rfl (zdq ?_)
  refine zfq (zjq ?_)
  exact znq (.inr rfl) rfl rfl
theorem full_s (t : Tree) (hb : t.nodes.length ≤ 4611686018427387903) : PS cfg G 48 [tW t] (.bool (decide (260944 < t.nodes.length))) := by
  have e : (t.nodes.map nW).length = t.nodes.length := List.length_map _
  refine ynq (fn := Try.f48) rfl rfl rfl (Nat.le_of_ble_eq_true rfl) (fun R k0 => ?_)
  refine zcq (zbq (zeq rfl rfl (zaq rfl rfl (zdq ?_))))
  refine zfq (zcq (zbq (zaq rfl rfl (zeq rfl rfl (zNq (w' := .int .i64 (t.nodes.length : Int)) rfl rfl (by rw [← e]; rfl) ?_)))))
  refine zCq rfl rfl ?_
  refine zaq rfl rfl (zdq ?_)
  refine zfq (zjq ?_)
  exact znq (.inr rfl) rfl (by congr 1; rw [decide_eq_decide]; omega)
def GoesOn (t : Tree) (m : Nat) (l : List Pr) : Tree → T → Prop := fun t' t1 => t1.all = l ∧ ∃ ms, t'.nodes = t.nodes ++ ms ∧ ms.length ≤ m
theorem turn_st (t : Tree) (n : Nat) (t0 : T) (k : Dig) (a : Acct) (h : IsA t n t0) (ha : a.ok) (hl : t.nodes.length ≤ 261844) : qFq cfg G 71 1 [.ptr 0 0, dW k, aW a] [(0, 92, tW t)] (StA (.tup []) (GoesOn t 257 (setL t0.all k a))) := by
  intro R
  refine yrq (fn := Try.f71) rfl rfl rfl (Nat.le_of_ble_eq_true rfl) (fun k0 => ?_)
  refine zcq (zbq (zeq rfl rfl (zeq rfl rfl (zdq ?_))))
  refine zfq (zcq (zZq (zhq rfl rfl (zhq rfl rfl (zhq rfl rfl (zDq rfl rfl ?_))))))
  refine zDq rfl rfl ?_
  refine zDq rfl rfl ?_
  (refine yIq rfl (Yfq rfl rfl rfl rfl rfl (aset_s t n t0 k a h ha hl) (by simp) ?_); rintro w hw ⟨t', n', t1, ht', hall, hx, rfl⟩; refine ⟨by first | rfl | kernel_rfl, ?_⟩)
  refine zhq rfl rfl (zhq rfl rfl (zhq rfl rfl (zDq rfl rfl ?_)))
  refine zDq rfl rfl ?_
  refine zhq rfl rfl (z6q ?_)
  refine zfq (zcq (zbq (zaq rfl rfl (zCq rfl rfl ?_))))
  refine zdq ?_
  refine zfq ?_
  refine zEq rfl (fun h1 => ?_) (fun h1 => ?_)
  · refine zbq (zaq rfl rfl (zeq rfl rfl (zaq rfl rfl (zaq rfl rfl (zeq rfl rfl (zdq ?_))))))
    exact fin_st [] (.inl rfl) trivial rfl (by omega) rfl rfl ht' ⟨hall, hx⟩
  · exfalso; omega
theorem readA_ok (l : List UInt8) : (qeq l).1.ok := by
  unfold qeq
  split
  · exact ⟨Nat.zero_lt_succ _, Nat.zero_lt_succ _⟩
  · split
    · exact ⟨Nat.zero_lt_succ _, Nat.zero_lt_succ _⟩
    · split
      · exact ⟨Nat.zero_lt_succ _, Nat.zero_lt_succ _⟩
      · have h1 := vEq (l.take 8)
        have h2 := vEq (l.drop 8)
        rw [show (l.take 8).length = 8 by rw [List.length_take]; omega] at h1
        rw [show (l.drop 8).length = 8 by rw [List.length_drop]; omega] at h2
        exact ⟨h1, h2⟩
theorem acctOf_ok (t0 : T) (k : Dig) : (qfq t0 k).ok := by
  unfold qfq
  split
  · exact ⟨Nat.zero_lt_succ _, Nat.zero_lt_succ _⟩
  · exact readA_ok _
theorem more_no (t : Tree) (n : Nat) (t0 : T) (k : Dig) (c : Nat) (h : IsA t n t0) (hc : c < 18446744073709551616) (ho : 18446744073709551616 ≤ (qfq t0 k).balance + c) : qFq cfg G 49 1 [.ptr 0 0, dW k, .int .u64 (c : Int)] [(0, 92, tW t)] (StA (.bool false) (GoesOn t 257 t0.all)) := by
  intro R
  have hA := (acctOf_ok t0 k).2
  refine yrq (fn := Try.f49) rfl rfl rfl (Nat.le_of_ble_eq_true rfl) (fun k0 => ?_)
  refine zcq (zbq (zeq rfl rfl (zaq rfl rfl (zdq ?_))))
  refine zfq (zcq (zZq (zhq rfl rfl (zhq rfl rfl (zhq rfl rfl (zDq rfl rfl ?_))))))
  refine zDq rfl rfl ?_
  refine qUq rfl rfl rfl rfl rfl rfl (aget_s t n t0 h k) ?_
  refine zhq rfl rfl (zhq rfl rfl (zhq rfl rfl (zDq rfl rfl ?_)))
  refine zDq rfl rfl ?_
  refine zhq rfl rfl (z6q ?_)
  refine zfq (zcq (zbq (zaq rfl rfl (zeq rfl rfl (zaq rfl rfl ?_)))))
  (refine zYq rfl (Zzq (a := (qfq t0 k).balance) (b := c) rfl rfl rfl rfl ?_))
  refine zaq rfl rfl (zaq rfl rfl (zNq (w' := .int .u64 ((1 : Nat) : Int)) rfl rfl (congrArg (fun q : Nat => W.int .u64 (q : Int)) (by omega)) ?_))
  refine zaq rfl rfl (zaq rfl rfl (zdq ?_))
  refine zfq (zcq (zcq (zbq (zaq rfl rfl (zCq rfl rfl ?_)))))
  refine zdq ?_
  refine zfq ?_
  refine zEq rfl (fun h1 => ?_) (fun h1 => ?_)
  · refine zcq (zbq (zaq rfl rfl (zdq ?_)))
    refine zfq (zjq ?_)
    refine zlq (by intro h; cases h) ?_
    exact fin_st [(6, .bool false)] (.inr rfl) ⟨rfl, trivial⟩ rfl (by omega) rfl rfl h ⟨rfl, [], by simp, by simp⟩
  · exfalso; omega
theorem more_st (t : Tree) (n : Nat) (t0 : T) (k : Dig) (c : Nat) (h : IsA t n t0) (ho : (qfq t0 k).balance + c < 18446744073709551616) (hl : t.nodes.length ≤ 261844) : qFq cfg G 49 1 [.ptr 0 0, dW k, .int .u64 (c : Int)] [(0, 92, tW t)] (StA (.bool true) (GoesOn t 257 (setL t0.all k ⟨(qfq t0 k).nonce, (qfq t0 k).balance + c⟩))) := by
  intro R
  have hA := (acctOf_ok t0 k).1
  refine yrq (fn := Try.f49) rfl rfl rfl (Nat.le_of_ble_eq_true rfl) (fun k0 => ?_)
  refine zcq (zbq (zeq rfl rfl (zaq rfl rfl (zdq ?_))))
  refine zfq (zcq (zZq (zhq rfl rfl (zhq rfl rfl (zhq rfl rfl (zDq rfl rfl ?_))))))
  refine zDq rfl rfl ?_
  refine qUq rfl rfl rfl rfl rfl rfl (aget_s t n t0 h k) ?_
  refine zhq rfl rfl (zhq rfl rfl (zhq rfl rfl (zDq rfl rfl ?_)))
  refine zDq rfl rfl ?_
  refine zhq rfl rfl (z6q ?_)
  refine zfq (zcq (zbq (zaq rfl rfl (zeq rfl rfl (zaq rfl rfl ?_)))))
  (refine zYq rfl (Zzq (a := (qfq t0 k).balance) (b := c) rfl rfl rfl rfl ?_))
  refine zaq rfl rfl (zNq (w' := .int .u64 (((qfq t0 k).balance + c : Nat) : Int)) rfl rfl (congrArg (fun q : Nat => W.int .u64 (q : Int)) (by omega)) ?_)
  refine zNq (w' := .int .u64 ((0 : Nat) : Int)) rfl rfl (congrArg (fun q : Nat => W.int .u64 (q : Int)) (by omega)) ?_
  refine zaq rfl rfl (zaq rfl rfl (zdq ?_))
  refine zfq (zcq (zcq (zbq (zaq rfl rfl (zCq rfl rfl ?_)))))
  refine zdq ?_
  refine zfq ?_
  refine zEq rfl (fun h1 => ?_) (fun h1 => ?_)
  · exfalso; omega
  · refine ziq (zfq (zcq (zbq (zaq rfl rfl (zaq rfl rfl (zeq rfl rfl (zdq ?_)))))))
    refine zfq (zcq (zbq (zaq rfl rfl (zeq rfl rfl (zeq rfl rfl ?_)))))
    (refine zYq rfl (step_st 0 rfl rfl rfl rfl (by simp) (by show 0 < 3; omega) rfl rfl (turn_st t n t0 k ⟨(qfq t0 k).nonce, (qfq t0 k).balance + c⟩ h ⟨hA, ho⟩ hl) ?_); rintro t' n' t1 h' hP)
    refine zdq ?_
    refine zfq (zcq (zbq (zaq rfl rfl (zdq ?_))))
    refine zfq (zjq ?_)
    exact fin_st [(6, .bool true)] (.inr rfl) ⟨rfl, trivial⟩ rfl (by omega) rfl rfl h' hP
theorem twinp_s (t : Tree) (hl : t.nodes.length ≤ 1000000000) (hv : ∀ x ∈ t.nodes, x.val.length ≤ 70368744177664) : PS cfg G 30 [tW t] (tW t) := fun R =>
  vkq (ZFq (twin_s t.nodes t.root hl hv) (Q := fun w hp _ => View (blkA hp) w (tW t)) (fun w hp nw h => by
    rcases h with ⟨hn, rfl, rfl, rfl⟩ | ⟨rfl, rfl, rfl⟩
    · refine .agg (.cons ?_ (.cons (.pur rfl) .nil))
      rw [hn]
      exact .nilfz
    · exact ufq (b := 2) (ns := t.nodes) (root := t.root) rfl) R)
end Go.Proofs.Ytgeelfdgnehdnaa
namespace Go.Proofs.Ytgeelfdgnehdnaa
open Go.RowKit
set_option linter.unusedSimpArgs false
set_option linter.unusedVariables false
attribute [local irreducible] CoW OpW FlW Step Spec
variable {G : Nat → Option W}
structure Depo where
  number : Nat
  to : Dig
  amount : Nat
noncomputable def pdW (d : Depo) : W := .agg 34 [.int .u64 (d.number : Int), dW d.to, .int .u64 (d.amount : Int)]
@[simp] theorem pdW_pur (d : Depo) : purW (pdW d) = true := by simp [pdW]
def overB (t0 : T) (d : Depo) : Prop := 18446744073709551616 ≤ (qfq t0 d.to).balance + d.amount
instance (t0 : T) (d : Depo) : Decidable (overB t0 d) := inferInstanceAs (Decidable (_ ≤ _))
noncomputable def givL (t0 : T) (d : Depo) : List Pr := if overB t0 d then t0.all else setL t0.all d.to ⟨(qfq t0 d.to).nonce, (qfq t0 d.to).balance + d.amount⟩
def givC (t0 : T) (d : Depo) : Nat := if overB t0 d then 151 else 0
def GivA (t : Tree) (t0 : T) (d : Depo) : W → Prop := fun w => ∃ t' n' t1, IsA t' n' t1 ∧ GoesOn t 257 (givL t0 d) t' t1 ∧ w = .tup [tW t', .int .i64 (givC t0 d : Nat), .int .i64 0]
theorem give_no (t : Tree) (d : Depo) (hb : t.nodes.length ≤ 4611686018427387903) (h : ¬ MayA t) : PS cfg G 23 [tW t, pdW d] (.tup [noT, .int .i64 0, .int .i64 8]) := by
  refine ynq (fn := Try.f23) rfl rfl rfl (Nat.le_of_ble_eq_true rfl) (fun R k0 => ?_)
  refine zcq (zbq (zeq rfl rfl (zeq rfl rfl (zeq rfl rfl (zaq rfl rfl (zaq rfl rfl (zdq ?_)))))))
  refine zfq (zcq (zmq (zcq (zbq (zeq rfl rfl (ztq rfl rfl rfl rfl rfl rfl (y2q (w' := .int .i64 8) (asked_s t hb) (by rw [if_neg h])) ?_))))))
  refine zCq rfl rfl ?_
  refine zaq rfl rfl (zdq ?_)
  refine zfq (zMq rfl (zcq (zbq (zaq rfl rfl (zeq rfl rfl (zaq rfl rfl (zaq rfl rfl (zdq ?_))))))))
  refine zfq (zjq ?_)
  refine zrq (by intro i h; cases h) ?_
  refine zlq (by intro h; cases h) ?_
  exact znq (.inr rfl) rfl rfl
theorem give_s (t : Tree) (n : Nat) (t0 : T) (d : Depo) (h : IsA t n t0) (hd : d.amount < 18446744073709551616) (hl : t.nodes.length ≤ 260944) : PE cfg G 23 [tW t, pdW d] (GivA t t0 d) := by
  have yes : MayA t := ⟨n, t0, h⟩
  have hvals : ∀ x ∈ t.nodes, x.val.length ≤ 70368744177664 := IsT.vals (root := t.root) h.toIsT
  by_cases ho : overB t0 d
  · skip
    refine vzq (fn := Try.f23) rfl rfl rfl (Nat.le_of_ble_eq_true rfl) (fun R k0 => ?_)
    refine zcq (zbq (zeq rfl rfl (zeq rfl rfl (zeq rfl rfl (zaq rfl rfl (zaq rfl rfl (zdq ?_)))))))
    refine zfq (zcq (zmq (zcq (zbq (zeq rfl rfl (ztq rfl rfl rfl rfl rfl rfl (y2q (w' := .int .i64 0) (asked_s t (by omega)) (by rw [if_pos yes])) ?_))))))
    refine zCq rfl rfl ?_
    refine zaq rfl rfl (zdq ?_)
    refine zfq (zAq rfl (zcq (zbq (zeq rfl rfl (ztq rfl rfl rfl rfl rfl rfl (y2q (w' := .bool false) (full_s t (by omega)) (by rw [decide_eq_false (by omega)])) ?_)))))
    refine zaq rfl rfl (zdq ?_)
    refine zfq (zAq rfl (ziq (zrq (by intro i h; cases h) ?_)))
    refine zfq (zcq (zbq (zeq rfl rfl (ztq rfl rfl rfl rfl rfl rfl (twinp_s t (by omega) hvals) ?_))))
    refine zaq rfl rfl (zeq rfl rfl (zaq rfl rfl (zdq ?_)))
    refine zfq (zcq (zcq (zbq (zaq rfl rfl (zaq rfl rfl (zeq rfl rfl (zaq rfl rfl (zeq rfl rfl ?_))))))))
    (refine zYq rfl (step_st 3 rfl rfl rfl rfl (by simp) (by show 3 < 4; omega) rfl rfl (more_no t n t0 d.to d.amount h hd ho) ?_); rintro t' n' t1 h' hP)
    refine zaq rfl rfl (zdq ?_)
    refine zfq (zMq rfl (zcq (zbq (zaq rfl rfl (zaq rfl rfl (zaq rfl rfl (zeq rfl rfl (zeq rfl rfl (zaq rfl rfl (zaq rfl rfl (zdq ?_)))))))))))
    refine zfq (zjq ?_)
    refine zlq (by intro h; cases h) ?_
    refine xaq (w' := .tup [tW t', .int .i64 151, .int .i64 0]) (.inr rfl) rfl (.pur (by simp)) (by simp) ⟨t', n', t1, h', ?_, ?_⟩
    · unfold givL; rw [if_pos ho]; exact hP
    · unfold givC; rw [if_pos ho]; rfl
  · have ho' : (qfq t0 d.to).balance + d.amount < 18446744073709551616 := Nat.lt_of_not_le ho
    refine vzq (fn := Try.f23) rfl rfl rfl (Nat.le_of_ble_eq_true rfl) (fun R k0 => ?_)
    refine zcq (zbq (zeq rfl rfl (zeq rfl rfl (zeq rfl rfl (zaq rfl rfl (zaq rfl rfl (zdq ?_)))))))
    refine zfq (zcq (zmq (zcq (zbq (zeq rfl rfl (ztq rfl rfl rfl rfl rfl rfl (y2q (w' := .int .i64 0) (asked_s t (by omega)) (by rw [if_pos yes])) ?_))))))
    refine zCq rfl rfl ?_
    refine zaq rfl rfl (zdq ?_)
    refine zfq (zAq rfl (zcq (zbq (zeq rfl rfl (ztq rfl rfl rfl rfl rfl rfl (y2q (w' := .bool false) (full_s t (by omega)) (by rw [decide_eq_false (by omega)])) ?_)))))
    refine zaq rfl rfl (zdq ?_)
    refine zfq (zAq rfl (ziq (zrq (by intro i h; cases h) ?_)))
    refine zfq (zcq (zbq (zeq rfl rfl (ztq rfl rfl rfl rfl rfl rfl (twinp_s t (by omega) hvals) ?_))))
    refine zaq rfl rfl (zeq rfl rfl (zaq rfl rfl (zdq ?_)))
    refine zfq (zcq (zcq (zbq (zaq rfl rfl (zaq rfl rfl (zeq rfl rfl (zaq rfl rfl (zeq rfl rfl ?_))))))))
    (refine zYq rfl (step_st 3 rfl rfl rfl rfl (by simp) (by show 3 < 4; omega) rfl rfl (more_st t n t0 d.to d.amount h ho' (by omega)) ?_); rintro t' n' t1 h' hP)
    refine zaq rfl rfl (zdq ?_)
    refine zfq (zAq rfl (ziq (zfq (zcq (zbq (zaq rfl rfl (zaq rfl rfl (zaq rfl rfl (zeq rfl rfl (zeq rfl rfl (zaq rfl rfl (zaq rfl rfl (zdq ?_)))))))))))))
    refine zfq (zjq ?_)
    refine xaq (w' := .tup [tW t', .int .i64 0, .int .i64 0]) (.inr rfl) rfl (.pur (by simp)) (by simp) ⟨t', n', t1, h', ?_, ?_⟩
    · unfold givL; rw [if_neg ho]; exact hP
    · unfold givC; rw [if_neg ho]; rfl
end Go.Proofs.Ytgeelfdgnehdnaa
namespace Go.Proofs.Ytgeelfdgnehdnaa
open Go.RowKit
set_option linter.unusedSimpArgs false
set_option linter.unusedVariables false
attribute [local irreducible] CoW OpW FlW Step Spec
variable {G : Nat → Option W}
theorem inA_ok (ps : List Pr) (k : Dig) : (inA ps k).ok := by
  unfold inA
  split
  · exact readA_ok _
  · exact ⟨Nat.zero_lt_succ _, Nat.zero_lt_succ _⟩
theorem rmore_s (ps : List Pr) (f : Bool) (k : Dig) (c : Nat) (hc : c < 18446744073709551616) (hb : ps.length ≤ 1000000) (hv : ∀ x ∈ ps, x.2.length ≤ 70368744177664) : PS cfg G 72 [.fz (ps.map pW) 33 f, dW k, .int .u64 (c : Int)] (if 18446744073709551616 ≤ (inA ps k).balance + c then .tup [.nils, .bool false] else .tup [psW (Zlq ps k ⟨(inA ps k).nonce, (inA ps k).balance + c⟩), .bool true]) := by
  obtain ⟨h0, hA⟩ := inA_ok ps k
  refine ynq (fn := Try.f72) rfl rfl rfl (Nat.le_of_ble_eq_true rfl) (fun R k0 => ?_)
  refine zcq (zbq (zeq rfl rfl (zaq rfl rfl (zaq rfl rfl (zdq ?_)))))
  refine zfq (zcq (zbq (zaq rfl rfl (zeq rfl rfl (ztq rfl rfl rfl rfl rfl rfl (rin_s _ _ _ (by omega)) ?_)))))
  refine zeq rfl rfl (zeq rfl rfl (zdq ?_))
  refine zfq (zcq (zcq (zbq (zaq rfl rfl (zaq rfl rfl (zeq rfl rfl (zyq (18446744073709551615 - (inA ps k).balance) rfl rfl (by first | rfl | omega) ⟨by omega, by omega⟩ ?_)))))))
  refine zCq rfl rfl ?_
  refine zdq ?_
  refine zfq ?_
  refine zEq rfl (fun h1 => ?_) (fun h1 => ?_)
  · have h1 : ((18446744073709551615 - (inA ps k).balance : Nat) : Int) < (c : Int) := h1
    refine zcq (zbq (zaq rfl rfl (zaq rfl rfl (zdq ?_))))
    refine zfq (zjq ?_)
    refine zlq (by intro h; cases h) ?_
    exact znq (.inr rfl) rfl (by rw [if_pos (by omega)])
  · have h1 : ¬ ((18446744073709551615 - (inA ps k).balance : Nat) : Int) < (c : Int) := h1
    have hs : (inA ps k).balance + c < 18446744073709551616 := by omega
    refine ziq (zfq (zcq (zbq (zaq rfl rfl (zeq rfl rfl (zaq rfl rfl (zyq ((inA ps k).balance + c) rfl rfl (by first | rfl | omega) ⟨by omega, by omega⟩ ?_)))))))
    refine zaq rfl rfl (zeq rfl rfl (zdq ?_))
    refine zfq (zcq (zbq (zaq rfl rfl (zeq rfl rfl (zeq rfl rfl (ztq rfl rfl rfl rfl rfl rfl (rawith_s ps f k ⟨(inA ps k).nonce, (inA ps k).balance + c⟩ ⟨h0, hs⟩ hb hv) ?_))))))
    refine zaq rfl rfl (zaq rfl rfl (zdq ?_))
    refine zfq (zjq ?_)
    exact znq (.inr rfl) rfl (by rw [if_neg (by omega)])
theorem rgiven_s (ps : List Pr) (d : Depo) (hc : d.amount < 18446744073709551616) (hb : ps.length ≤ 1000000) (hv : ∀ x ∈ ps, x.2.length ≤ 70368744177664) : PS cfg G 50 [psW ps, pdW d] (if 18446744073709551616 ≤ (inA ps d.to).balance + d.amount then .tup [psW ps, .int .i64 151] else .tup [psW (Zlq ps d.to ⟨(inA ps d.to).nonce, (inA ps d.to).balance + d.amount⟩), .int .i64 0]) := by
  by_cases ho : 18446744073709551616 ≤ (inA ps d.to).balance + d.amount
  · rw [if_pos ho]
    refine ynq (fn := Try.f50) rfl rfl rfl (Nat.le_of_ble_eq_true rfl) (fun R k0 => ?_)
    refine zcq (zbq (zeq rfl rfl (zaq rfl rfl (zaq rfl rfl (zdq ?_)))))
    refine zfq (zcq (zbq (zaq rfl rfl (zaq rfl rfl (zeq rfl rfl (zaq rfl rfl (zeq rfl rfl (ztq rfl rfl rfl rfl rfl rfl (y2q (w' := .tup [.nils, .bool false]) (rmore_s ps false d.to d.amount hc hb hv) (by rw [if_pos ho])) ?_))))))))
    refine zaq rfl rfl (zaq rfl rfl (zaq rfl rfl (zaq rfl rfl (zaq rfl rfl (zdq ?_)))))
    refine zfq (zcq (zcq (zbq (zaq rfl rfl (zaq rfl rfl (zdq ?_))))))
    refine zfq (zMq rfl (zcq (zbq (zaq rfl rfl (zaq rfl rfl (zaq rfl rfl (zdq ?_)))))))
    refine zfq (zjq ?_)
    refine zlq (by intro h; cases h) ?_
    exact znq (.inr rfl) rfl rfl
  · rw [if_neg ho]
    refine ynq (fn := Try.f50) rfl rfl rfl (Nat.le_of_ble_eq_true rfl) (fun R k0 => ?_)
    refine zcq (zbq (zeq rfl rfl (zaq rfl rfl (zaq rfl rfl (zdq ?_)))))
    refine zfq (zcq (zbq (zaq rfl rfl (zaq rfl rfl (zeq rfl rfl (zaq rfl rfl (zeq rfl rfl (ztq rfl rfl rfl rfl rfl rfl (y2q (w' := .tup [psW (Zlq ps d.to ⟨(inA ps d.to).nonce, (inA ps d.to).balance + d.amount⟩), .bool true]) (rmore_s ps false d.to d.amount hc hb hv) (by rw [if_neg ho])) ?_))))))))
    refine zaq rfl rfl (zaq rfl rfl (zaq rfl rfl (zaq rfl rfl (zaq rfl rfl (zdq ?_)))))
    refine zfq (zcq (zcq (zbq (zaq rfl rfl (zaq rfl rfl (zdq ?_))))))
    refine zfq (zAq rfl (ziq (zfq (zcq (zbq (zaq rfl rfl (zaq rfl rfl (zaq rfl rfl (zdq ?_)))))))))
    refine zfq (zjq ?_)
    exact znq (.inr rfl) rfl rfl
theorem rgive_no (t : Tree) (d : Depo) (hb : t.nodes.length ≤ 4611686018427387903) (h : ¬ MayA t) : PS cfg G 24 [tW t, pdW d] (.tup [.nils, .int .i64 0, .int .i64 8]) := by
  refine ynq (fn := Try.f24) rfl rfl rfl (Nat.le_of_ble_eq_true rfl) (fun R k0 => ?_)
  refine zcq (zbq (zeq rfl rfl (zeq rfl rfl (zaq rfl rfl (zaq rfl rfl (zaq rfl rfl (zdq ?_)))))))
  refine zfq (zcq (zcq (zbq (zeq rfl rfl (ztq rfl rfl rfl rfl rfl rfl (y2q (w' := .bool false) (ramay_s t hb) (by rw [decide_eq_false h])) ?_)))))
  refine zaq rfl rfl (zdq ?_)
  refine zfq (zMq rfl (zcq (zbq (zaq rfl rfl (zaq rfl rfl (zaq rfl rfl (zdq ?_)))))))
  refine zfq (zjq ?_)
  refine zlq (by intro h; cases h) ?_
  exact znq (.inr rfl) rfl rfl
theorem rgive_s (t : Tree) (n : Nat) (t0 : T) (d : Depo) (h : IsA t n t0) (hc : d.amount < 18446744073709551616) (hl : t.nodes.length ≤ 260944) : PS cfg G 24 [tW t, pdW d] (.tup [psW (givL t0 d), .int .i64 (givC t0 d : Nat), .int .i64 0]) := by
  have yes : MayA t := ⟨n, t0, h⟩
  have e : (t.nodes.map nW).length = t.nodes.length := List.length_map _
  have hle := h.toIsT.le
  have e1 : (if 18446744073709551616 ≤ (inA t0.all d.to).balance + d.amount then W.tup [psW t0.all, .int .i64 151] else .tup [psW (Zlq t0.all d.to ⟨(inA t0.all d.to).nonce, (inA t0.all d.to).balance + d.amount⟩), .int .i64 0]) = .tup [psW (givL t0 d), .int .i64 (givC t0 d : Nat)] := by
    rw [← acct_in h.toIsT, withA_set h.toIsT.srt]
    unfold givL givC
    by_cases ho : overB t0 d
    · have ho' : 18446744073709551616 ≤ (qfq t0 d.to).balance + d.amount := ho
      rw [if_pos ho, if_pos ho', if_pos ho]; rfl
    · have ho' : ¬ 18446744073709551616 ≤ (qfq t0 d.to).balance + d.amount := ho
      rw [if_neg ho, if_neg ho', if_neg ho]; rfl
  refine ynq (fn := Try.f24) rfl rfl rfl (Nat.le_of_ble_eq_true rfl) (fun R k0 => ?_)
  refine zcq (zbq (zeq rfl rfl (zeq rfl rfl (zaq rfl rfl (zaq rfl rfl (zaq rfl rfl (zdq ?_)))))))
  refine zfq (zcq (zcq (zbq (zeq rfl rfl (ztq rfl rfl rfl rfl rfl rfl (y2q (w' := .bool true) (ramay_s t (by omega)) (by rw [decide_eq_true yes])) ?_)))))
  refine zaq rfl rfl (zdq ?_)
  refine zfq (zAq rfl (ziq (zfq (zcq (zcq (zbq (zaq rfl rfl (zeq rfl rfl (zNq (w' := .int .i64 (t.nodes.length : Int)) rfl rfl (by rw [← e]; rfl) ?_)))))))))
  refine zCq rfl rfl ?_
  refine zdq ?_
  refine zfq ?_
  refine zEq rfl (fun h1 => ?_) (fun h1 => ?_)
  · exfalso; omega
  · refine ziq (zfq (zcq (zZq (zDq rfl rfl ?_))))
    refine qUq rfl rfl rfl rfl rfl rfl (rall_s t n t0 h.toIsT) ?_
    refine zDq rfl rfl ?_
    refine qUq rfl rfl rfl rfl rfl rfl (y2q (rgiven_s t0.all d hc (by omega) h.toIsT.vle) e1) ?_
    refine zhq rfl rfl (zhq rfl rfl (zhq rfl rfl (zhq rfl rfl (zhq rfl rfl (z6q ?_)))))
    refine zfq (zcq (zbq (zaq rfl rfl (zaq rfl rfl (zaq rfl rfl (zaq rfl rfl (zaq rfl rfl (zdq ?_))))))))
    refine zfq (zjq ?_)
    exact znq (.inr rfl) rfl rfl
theorem grown_s (t x : Tree) (n : Nat) (t1 : T) (l : List Pr) (h : IsT x n t1) (hg : GoesOn t 257 l x t1) : PS cfg G 25 [tW x, tW t, psW l] (.bool true) := by
  obtain ⟨hall, ms, hms, hml⟩ := hg
  have hlen := h.len
  have hxl : x.nodes.length = t.nodes.length + ms.length := by rw [hms, List.length_append]
  have ex : (x.nodes.map nW).length = x.nodes.length := List.length_map _
  have et : (t.nodes.map nW).length = t.nodes.length := List.length_map _
  have ey : ((x.nodes.map nW).drop 0).take (t.nodes.length - 0) = t.nodes.map nW := by
    rw [List.drop_zero, Nat.sub_zero, hms, List.map_append, List.take_append_of_le_length (by simp), List.take_of_length_le (by simp)]
  refine ynq (fn := Try.f25) rfl rfl rfl (Nat.le_of_ble_eq_true rfl) (fun R k0 => ?_)
  refine zcq (zbq (zeq rfl rfl (zeq rfl rfl (zaq rfl rfl (zdq ?_)))))
  refine zfq (zcq (zcq (zbq (zaq rfl rfl (zeq rfl rfl (zNq (w' := .int .i64 (x.nodes.length : Int)) rfl rfl (by rw [← ex]; rfl) ?_))))))
  refine zaq rfl rfl (zeq rfl rfl (zNq (w' := .int .i64 (t.nodes.length : Int)) rfl rfl (by rw [← et]; rfl) ?_))
  refine zNq (w' := .bool false) rfl rfl (congrArg W.bool (ltI_not.2 (by omega))) ?_
  refine zaq rfl rfl (zeq rfl rfl (ztq rfl rfl rfl rfl rfl rfl (y2q (w' := .bool true) (rmay_s x (by omega)) (by rw [decide_eq_true h.may])) ?_))
  refine zaq rfl rfl (zaq rfl rfl (zdq ?_))
  refine zfq (zAq rfl (ziq (zfq (zcq (zZq (zhq rfl rfl (zDq rfl rfl ?_)))))))
  refine zhq rfl rfl (zDq rfl rfl ?_)
  refine fl_val (w' := .int .i64 (t.nodes.length : Int)) rfl rfl (by rw [← et]; rfl) ?_
  refine zhq rfl (uUq (ys := t.nodes.map nW) (l := 0) (h := t.nodes.length) rfl rfl rfl rfl rfl rfl rfl (Nat.zero_le _) (by omega) ey rfl) ?_
  refine zhq rfl rfl (zDq rfl rfl ?_)
  refine zhq rfl rfl (zDq rfl rfl ?_)
  refine zDq rfl rfl ?_
  refine z6q ?_
  refine zfq (zcq (zbq (zeq rfl rfl (zeq rfl rfl ?_))))
  refine op_ps rfl rfl rfl rfl rfl (show _ = [tW t, tW t] from rfl) (y2q (w' := .bool true) (Yjq t t (by omega)) (by rw [decide_eq_true rfl])) (by simp) rfl ?_
  refine zaq rfl rfl (zeq rfl rfl ?_)
  first | refine ztq rfl rfl rfl rfl rfl rfl (rall_s x n t1 h) ?_ | refine ztq rfl rfl rfl rfl rfl rfl (rall_s t n t0 h.toIsT) ?_
  refine zaq rfl rfl (ztq rfl rfl rfl rfl rfl rfl (y2q (w' := .bool true) (rpsame_s t1.all l false false (by have := h.le; omega)) (by rw [decide_eq_true hall])) ?_)
  refine zaq rfl rfl (zaq rfl rfl (zdq ?_))
  refine zfq (zjq ?_)
  exact znq (.inr rfl) rfl rfl
end Go.Proofs.Ytgeelfdgnehdnaa
namespace Go.Proofs.Ytgeelfdgnehdnaa
open Go.RowKit
set_option linter.unusedSimpArgs false
set_option linter.unusedVariables false
attribute [local irreducible] CoW OpW FlW Step Spec
variable {G : Nat → Option W}
theorem great_no {t : Tree} (h : ¬ Z7q t 600) : t.nodes.length ≤ 600 ∧ ∀ x ∈ t.nodes, x.val.length ≤ 100 := by
  have h1 : t.nodes.length ≤ 600 := Nat.le_of_not_lt fun q => h (.inl q)
  refine ⟨h1, fun x hx => ?_⟩
  obtain ⟨i, hi⟩ := List.getElem?_of_mem hx
  have := (List.getElem?_eq_some_iff.1 hi).1
  exact Nat.le_of_not_lt fun q => h (.inr ⟨i, x, by omega, hi, q⟩)
end Go.Proofs.Ytgeelfdgnehdnaa
namespace Go.Proofs.Ytgeelfdgnehdnaa
open Go.RowKit
set_option linter.unusedSimpArgs false
set_option linter.unusedVariables false
attribute [local irreducible] CoW OpW FlW Step Spec
variable {G : Nat → Option W}
theorem gives_s (t : Tree) (d : Depo) (hd : d.amount < 18446744073709551616) (hb : t.nodes.length ≤ 4611686018427387903) : PS cfg G 6 [tW t, pdW d] (.bool true) := by
  by_cases hg : Z7q t 600
  · skip
    refine ynq (fn := Try.f6) rfl rfl rfl (Nat.le_of_ble_eq_true rfl) (fun R k0 => ?_)
    refine zcq (zbq (zeq rfl rfl (zeq rfl rfl (zaq rfl rfl (zdq ?_)))))
    refine zfq (zcq (zcq (zbq (zeq rfl rfl (ztq rfl rfl rfl rfl rfl rfl (y2q (w' := .bool true) (great_s t 600 hb (by omega)) (by rw [decide_eq_true hg])) ?_)))))
    refine zdq ?_
    refine zfq (zMq rfl (zcq (zbq (zaq rfl rfl (zdq ?_)))))
    refine zfq (zjq ?_)
    refine zlq (by intro h; cases h) ?_
    exact znq (.inr rfl) rfl rfl
  obtain ⟨hn, hx⟩ := great_no hg
  have hv : ∀ x ∈ t.nodes, x.val.length ≤ 70368744177664 := fun x h => by have := hx x h; omega
  by_cases hA : MayA t
  · obtain ⟨n, t0, h⟩ := hA
    refine ynq (fn := Try.f6) rfl rfl rfl (Nat.le_of_ble_eq_true rfl) (fun R k0 => ?_)
    refine zcq (zbq (zeq rfl rfl (zeq rfl rfl (zaq rfl rfl (zdq ?_)))))
    refine zfq (zcq (zcq (zbq (zeq rfl rfl (ztq rfl rfl rfl rfl rfl rfl (y2q (w' := .bool false) (great_s t 600 hb (by omega)) (by rw [decide_eq_false hg])) ?_)))))
    refine zdq ?_
    refine zfq (zAq rfl (ziq (zfq (zcq (zbq (zeq rfl rfl (ztq rfl rfl rfl rfl rfl rfl (rttwin_s t (by omega) hv) ?_)))))))
    refine zeq rfl rfl (zeq rfl rfl (zdq ?_))
    refine zfq (zcq (zbq (zeq rfl rfl (zeq rfl rfl ?_))))
    ((refine zYq rfl (Yfq rfl rfl rfl rfl rfl (give_s t n t0 d h hd (by omega)) (by simp) ?_); rintro w hw ⟨t', n', t1, ht', hgo, rfl⟩))
    refine zaq rfl rfl (zaq rfl rfl (zaq rfl rfl (zaq rfl rfl (zeq rfl rfl (zeq rfl rfl (zaq rfl rfl (zaq rfl rfl (zdq ?_))))))))
    refine zfq (zcq (zbq (zeq rfl rfl (zeq rfl rfl (ztq rfl rfl rfl rfl rfl rfl (rgive_s t n t0 d h hd (by omega)) ?_)))))
    refine zaq rfl rfl (zaq rfl rfl (zaq rfl rfl (zaq rfl rfl (zaq rfl rfl (zaq rfl rfl (zaq rfl rfl (zdq ?_)))))))
    refine zfq (zcq (zbq (zaq rfl rfl (zaq rfl rfl (zNq (w' := .bool true) rfl rfl (congrArg W.bool (by first | rfl | exact eqI_iff.2 rfl | (simp; done) | decide | (simp [ltI_iff, eqI_iff]; done))) ?_)))))
    refine zaq rfl rfl (zaq rfl rfl (zaq rfl rfl (zNq (w' := .bool true) rfl rfl (congrArg W.bool (by first | rfl | exact eqI_iff.2 rfl | (simp; done) | decide | (simp [ltI_iff, eqI_iff]; done))) ?_)))
    refine zaq rfl rfl (zaq rfl rfl (zaq rfl rfl (zNq (w' := .bool false) rfl rfl (congrArg W.bool (by first | rfl | exact eqI_iff.2 rfl | (simp; done) | decide | (simp [ltI_iff, eqI_iff]; done))) ?_)))
    refine zaq rfl rfl (zgq rfl (zgq rfl (zgq rfl (zgq rfl (zaq rfl rfl (zaq rfl rfl (zaq rfl rfl (zNq (w' := .bool true) rfl rfl (congrArg W.bool (by first | rfl | exact eqI_iff.2 rfl | (simp; done) | decide | (simp [ltI_iff, eqI_iff]; done))) ?_))))))))
    refine zaq rfl rfl (zeq rfl rfl (zeq rfl rfl (zaq rfl rfl (ztq rfl rfl rfl rfl rfl rfl (grown_s t t' n' t1 _ ht'.toIsT hgo) ?_))))
    refine zaq rfl rfl (zaq rfl rfl (zaq rfl rfl (zaq rfl rfl (zdq ?_))))
    refine zfq (zcq (zbq (zaq rfl rfl (zaq rfl rfl (zeq rfl rfl (zeq rfl rfl (ztq rfl rfl rfl rfl rfl rfl (y2q (w' := .bool true) (Yjq t t (by omega)) (by rw [decide_eq_true rfl])) ?_)))))))
    refine zaq rfl rfl (zaq rfl rfl (zdq ?_))
    refine zfq (zjq ?_)
    exact znq (.inr rfl) rfl rfl
  · skip
    refine ynq (fn := Try.f6) rfl rfl rfl (Nat.le_of_ble_eq_true rfl) (fun R k0 => ?_)
    refine zcq (zbq (zeq rfl rfl (zeq rfl rfl (zaq rfl rfl (zdq ?_)))))
    refine zfq (zcq (zcq (zbq (zeq rfl rfl (ztq rfl rfl rfl rfl rfl rfl (y2q (w' := .bool false) (great_s t 600 hb (by omega)) (by rw [decide_eq_false hg])) ?_)))))
    refine zdq ?_
    refine zfq (zAq rfl (ziq (zfq (zcq (zbq (zeq rfl rfl (ztq rfl rfl rfl rfl rfl rfl (rttwin_s t (by omega) hv) ?_)))))))
    refine zeq rfl rfl (zeq rfl rfl (zdq ?_))
    refine zfq (zcq (zbq (zeq rfl rfl (zeq rfl rfl (ztq rfl rfl rfl rfl rfl rfl (give_no t d hb hA) ?_)))))
    refine zaq rfl rfl (zaq rfl rfl (zaq rfl rfl (zaq rfl rfl (zeq rfl rfl (zeq rfl rfl (zaq rfl rfl (zaq rfl rfl (zdq ?_))))))))
    refine zfq (zcq (zbq (zeq rfl rfl (zeq rfl rfl (ztq rfl rfl rfl rfl rfl rfl (rgive_no t d hb hA) ?_)))))
    refine zaq rfl rfl (zaq rfl rfl (zaq rfl rfl (zaq rfl rfl (zaq rfl rfl (zaq rfl rfl (zaq rfl rfl (zdq ?_)))))))
    refine zfq (zcq (zbq (zaq rfl rfl (zaq rfl rfl (zNq (w' := .bool true) rfl rfl (congrArg W.bool (by first | rfl | exact eqI_iff.2 rfl | (simp; done) | decide | (simp [ltI_iff, eqI_iff]; done))) ?_)))))
    refine zaq rfl rfl (zaq rfl rfl (zaq rfl rfl (zNq (w' := .bool true) rfl rfl (congrArg W.bool (by first | rfl | exact eqI_iff.2 rfl | (simp; done) | decide | (simp [ltI_iff, eqI_iff]; done))) ?_)))
    refine zaq rfl rfl (zaq rfl rfl (zaq rfl rfl (zNq (w' := .bool true) rfl rfl (congrArg W.bool (by first | rfl | exact eqI_iff.2 rfl | (simp; done) | decide | (simp [ltI_iff, eqI_iff]; done))) ?_)))
    refine zaq rfl rfl (zaq rfl rfl (zeq rfl rfl ?_))
    first | refine ZGq rfl rfl ?_ | refine zaq rfl rfl ?_
    refine zNq (w' := .bool true) rfl rfl (congrArg W.bool (by first | rfl | exact eqI_iff.2 rfl | (simp; done) | decide | (simp [ltI_iff, eqI_iff]; done))) ?_
    refine zaq rfl rfl (zaq rfl rfl (zgq rfl (zgq rfl (zgq rfl (zgq rfl (zgq rfl (zgq rfl (zgq rfl (zgq rfl (zaq rfl rfl (zaq rfl rfl (zaq rfl rfl (zdq ?_)))))))))))))
    refine zfq (zcq (zbq (zaq rfl rfl (zaq rfl rfl (zeq rfl rfl (zeq rfl rfl (ztq rfl rfl rfl rfl rfl rfl (y2q (w' := .bool true) (Yjq t t (by omega)) (by rw [decide_eq_true rfl])) ?_)))))))
    refine zaq rfl rfl (zaq rfl rfl (zdq ?_))
    refine zfq (zjq ?_)
    exact znq (.inr rfl) rfl rfl
theorem fit_depo {w : W} (h : Fit (.st 34 [.int .u64, .arr 32 1 (.int .u8), .int .u64]) w) : ∃ d : Depo, w = pdW d ∧ d.number < 18446744073709551616 ∧ d.amount < 18446744073709551616 := by
  obtain ⟨l, rfl, w1, l1, rfl, h1, w2, l2, rfl, h2, w3, l3, rfl, h3, rfl⟩ := h
  obtain ⟨n, rfl, hn⟩ := fit_u64 h1
  obtain ⟨k, rfl⟩ := fit_dig h2
  obtain ⟨m, rfl, hm⟩ := fit_u64 h3
  exact ⟨⟨n, k, m⟩, rfl, hn, hm⟩
end Go.Proofs.Ytgeelfdgnehdnaa

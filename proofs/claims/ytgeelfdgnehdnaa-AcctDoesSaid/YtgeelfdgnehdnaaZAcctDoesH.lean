/-
  What the proof of AcctDoes stands on, part 8. No condition.
-/
import Derived.OpenShut
import Derived.Handed
import Derived.ChangeArms
import Derived.ChangeOld
import Derived.OpenVars
import Derived.Carry
import Derived.Test.YtgeelfdgnehdnaaZAcctDoesG
namespace Go.Proofs.Ytgeelfdgnehdnaa
open Go.RowKit
set_option linter.unusedSimpArgs false
set_option linter.unusedVariables false
attribute [local irreducible] CoW OpW FlW Step Spec
variable {G : Nat → Option W}
theorem IsT.vals {ns : List Node} {n : Nat} {root : Int} {t0 : T} (h : IsT ⟨ns, root⟩ n t0) : ∀ x ∈ ns, x.val.length ≤ 70368744177664 := fun x hx => by
  obtain ⟨i, hi⟩ := List.getElem?_of_mem hx
  have h1 := h.okn i x hi
  obtain ⟨lf, k', v', l, r⟩ := x
  cases lf with
  | true => have := (vEq h.okn hi).2; simp only; omega
  | false => simp only [oneB, Bool.false_eq_true, if_false] at h1; simp only; rw [h1.2.2.2.1]; simp
theorem tdrop_s (t : Tree) (n : Nat) (t0 : T) (k : Dig) (h : IsT t n t0) (hs : (t0.find k 0).isSome = true) (hl : t.nodes.length ≤ 261844) : PE cfg G 31 [tW t, dW k] (PutA (t0.drop k 0)) := by
  have hy := h.may
  have hr := h.root
  obtain ⟨ns, root⟩ := t
  simp only at hr hl
  subst hr
  have e : (ns.map nW).length = ns.length := List.length_map _
  have hvals := h.vals
  have hok := (x3q k t0 j2q h.ok hs).1
  obtain ⟨m, f1, f2, f3⟩ := fto_of (k := k) h.rep h.ok
  obtain ⟨v0, hv0⟩ := Option.isSome_iff_exists.1 hs
  obtain ⟨j, l0, r0, rfl, hx⟩ := f3 v0 hv0
  have hj := (List.getElem?_eq_some_iff.1 hx).1
  refine pe_inV (fn := Try.f31) rfl rfl rfl (Nat.le_of_ble_eq_true rfl) (fun R k0 => ?_)
  refine zcq (zbq (zdq rfl rfl (zdq rfl rfl (zdq rfl rfl (zaq rfl rfl (zeq ?_))))))
  refine zfq (zcq (zmq (zcq (zbq (zdq rfl rfl ?_)))))
  first | refine zsq rfl rfl rfl rfl rfl rfl (yXq (w' := .int .i64 0) (qoq ⟨ns, (n : Int)⟩ (by show ns.length ≤ _; omega)) (by rw [if_pos hy])) ?_ | refine zsq rfl rfl rfl rfl rfl rfl (qoq _ (by omega)) ?_
  refine zEq rfl rfl ?_
  refine zaq rfl rfl (zeq ?_)
  refine zfq (zCq rfl (zcq (zbq (zdq rfl rfl (zdq rfl rfl (zsq rfl rfl rfl rfl rfl rfl (tfind_s ⟨ns, (n : Int)⟩ k n _ rfl f1 (by show ns.length ≤ _; omega)) ?_))))))
  refine zEq rfl rfl ?_
  refine zaq rfl rfl (zeq ?_)
  refine zfq ?_
  refine zHq rfl (fun h1 => ?_) (fun h1 => ?_)
  · exfalso; omega
  · refine zcq (zbq (zaq rfl rfl (zdq rfl rfl (zXq (w' := .int .i64 (ns.length : Int)) rfl rfl (by rw [← e]; rfl) ?_))))
    refine zEq rfl rfl ?_
    refine zaq rfl rfl (zeq ?_)
    refine zfq ?_
    refine zHq rfl (fun h2 => ?_) (fun h2 => ?_)
    · exfalso; omega
    · refine ziq (ztq (by intro i h; cases h) ?_)
      refine zfq (zcq (zbq (zdq rfl rfl ?_)))
      skip
      refine z3q rfl (u1q rfl rfl rfl rfl rfl (by simp [xnq]) (twin_s ns (n : Int) (by omega) hvals) ?_)
      rintro w hp1 nw1 (⟨hn, rfl, rfl, rfl⟩ | ⟨rfl, rfl, rfl⟩)
      · exfalso
        subst hn
        simp at hj
      · skip
        refine zaq rfl rfl (zdq rfl rfl (zaq rfl rfl (zeq ?_)))
        refine zfq (zcq (z0q (zhq rfl rfl (zhq rfl rfl (zhq rfl rfl (zhq rfl rfl (zhq rfl rfl (zhq rfl rfl (zGq rfl rfl ?_)))))))))
        refine zGq rfl rfl ?_
        skip
        refine yMq rfl (step_mkJ 6 5 rfl rfl rfl rfl (by simp [renW]) (by omega) (by show 6 < 7; omega) (by show 5 < 7; omega) rfl (by show some (70, renW _ (nsW ns)) = _; rw [yBq (qTq ns)]) (wout_s (n : Int) k ns h.okn t0 n 0 256 qSq h.rep h.ok rfl hs (by omega)) ?_ ?_)
        · skip
          skip
          intro m hm
          refine ⟨by first | rfl | kernel_rfl, ?_⟩
          skip
          refine zhq rfl rfl (zhq rfl rfl (zhq rfl rfl (zGq rfl rfl ?_)))
          refine z9q ?_
          refine zfq (zcq (zbq (zaq rfl rfl (zaq rfl rfl (zaq rfl rfl (zdq rfl rfl (zdq rfl rfl (zaq rfl rfl (zeq ?_)))))))))
          refine zfq (zjq ?_)
          exact uUq (w' := .tup [tW ⟨ns, (m : Int)⟩, .int .i64 0]) (.inr rfl) rfl (.tup (.cons (vkq (b := 5) (ns := ns) (root := (m : Int)) rfl) (.cons (.pur rfl) .nil))) (by simp) ⟨⟨ns, (m : Int)⟩, m, ⟨h.len, h.okn, rfl, hm, hok⟩, rfl⟩
        · rintro ns1 m ⟨⟨ms, rfl, hms⟩, hok1, hm⟩
          refine ⟨by first | rfl | kernel_rfl, ?_⟩
          skip
          refine zhq rfl rfl (zhq rfl rfl (zhq rfl rfl (zGq rfl rfl ?_)))
          refine z9q ?_
          refine zfq (zcq (zbq (zaq rfl rfl (zaq rfl rfl (zaq rfl rfl (zdq rfl rfl (zdq rfl rfl (zaq rfl rfl (zeq ?_)))))))))
          refine zfq (zjq ?_)
          exact uUq (w' := .tup [tW ⟨ns ++ ms, (m : Int)⟩, .int .i64 0]) (.inr rfl) rfl (.tup (.cons (vkq (b := 7) (ns := ns ++ ms) (root := (m : Int)) rfl) (.cons (.pur rfl) .nil))) (by simp) ⟨⟨ns ++ ms, (m : Int)⟩, m, ⟨by simp only [List.length_append]; omega, hok1, rfl, hm, hok⟩, rfl⟩
end Go.Proofs.Ytgeelfdgnehdnaa
namespace Go.Proofs.Ytgeelfdgnehdnaa
open Go.RowKit
set_option linter.unusedSimpArgs false
set_option linter.unusedVariables false
attribute [local irreducible] CoW OpW FlW Step Spec
variable {G : Nat → Option W}
noncomputable def setL (l : List Pr) (k : Dig) (a : Acct) : List Pr := if a = .zero then yeq l k else kAq l k (qyq a)
def SetA (t0 : T) (k : Dig) (a : Acct) : W → Prop := fun w => ∃ t n t1, IsA t n t1 ∧ t1.all = setL t0.all k a ∧ w = .tup [tW t, .int .i64 0]
noncomputable def noT : W := .agg 2 [.nils, .int .i64 0]
theorem mayp_bytes (k : Dig) (a : Acct) : MayP [(k, qyq a)] := by
  refine ⟨by simp, fun i hi x hx => ?_⟩
  obtain rfl : i = 0 := by simpa using hi
  cases hx
  exact ⟨by simp [valB, qyq, beB], fun y h0 => by omega⟩
theorem aset_no (t : Tree) (hb : t.nodes.length ≤ 4611686018427387903) (h : ¬ MayA t) (k : Dig) (a : Acct) : PS cfg G 9 [tW t, dW k, aW a] (.tup [noT, .int .i64 8]) := by
  refine ynq (fn := Try.f9) rfl rfl rfl (Nat.le_of_ble_eq_true rfl) (fun R k0 => ?_)
  refine zcq (zbq (zdq rfl rfl (zdq rfl rfl (zdq rfl rfl (zdq rfl rfl (zaq rfl rfl (zeq ?_)))))))
  refine zfq (zcq (zcq (zbq (zdq rfl rfl (zsq rfl rfl rfl rfl rfl rfl (yXq (w' := .int .i64 8) (qqq t hb) (by rw [if_neg h])) ?_)))))
  refine zaq rfl rfl (zeq ?_)
  refine zfq (zcq (zbq (zaq rfl rfl (zEq rfl rfl ?_))))
  refine zeq ?_
  refine zfq (zQq rfl (zcq (zbq (zaq rfl rfl (zaq rfl rfl (zdq rfl rfl (zaq rfl rfl (zeq ?_))))))))
  refine zfq (zjq ?_)
  refine zlq (by intro h; cases h) ?_
  exact znq (.inr rfl) rfl rfl
theorem aset_s (t : Tree) (n : Nat) (t0 : T) (k : Dig) (a : Acct) (h : IsA t n t0) (ha : a.ok) (hl : t.nodes.length ≤ 261844) : PE cfg G 9 [tW t, dW k, aW a] (SetA t0 k a) := by
  have yes : MayA t := ⟨n, t0, h⟩
  by_cases hz : a = .zero
  · subst hz
    have hvals : ∀ x ∈ t.nodes, x.val.length ≤ 70368744177664 := IsT.vals (root := t.root) h.toIsT
    cases hf : t0.find k 0 with
    | none =>
      have hno : yeq t0.all k = t0.all := jkq (findL_none.1 (by rw [← kNq k j2q h.ok]; exact hf))
      have hall : t0.all = setL t0.all k .zero := by unfold setL; rw [if_pos rfl, hno]
      refine pe_inV (fn := Try.f9) rfl rfl rfl (Nat.le_of_ble_eq_true rfl) (fun R k0 => ?_)
      refine zcq (zbq (zdq rfl rfl (zdq rfl rfl (zdq rfl rfl (zdq rfl rfl (zaq rfl rfl (zeq ?_)))))))
      refine zfq (zcq (zcq (zbq (zdq rfl rfl (zsq rfl rfl rfl rfl rfl rfl (yXq (w' := .int .i64 0) (qqq t (by omega)) (by rw [if_pos yes])) ?_)))))
      refine zaq rfl rfl (zeq ?_)
      refine zfq (zcq (zbq (zaq rfl rfl (zEq rfl rfl ?_))))
      refine zeq ?_
      refine zfq (zCq rfl (ziq (zfq (zcq (zcq (zbq (zdq rfl rfl (zaq rfl rfl (zaq rfl (uCq rfl rfl rfl rfl (uwq .zero .zero)) (zeq ?_))))))))))
      refine zfq (zCq rfl (ziq (zfq (zcq (zcq (zbq (zdq rfl rfl (zdq rfl rfl (zsq rfl rfl rfl rfl rfl rfl (yXq (w' := .tup [.nils, .bool false]) (tget_s t n t0 k h.toIsT) (by rw [hf]; rfl)) ?_)))))))))
      refine zaq rfl rfl (zaq rfl rfl (zaq rfl rfl (zaq rfl rfl (zaq rfl rfl (zeq ?_)))))
      refine zfq (zcq (zbq (zaq rfl rfl (zaq rfl rfl (zeq ?_)))))
      refine zfq (zQq rfl (zcq (zbq (zdq rfl rfl ?_))))
      skip
      skip
      refine z3q rfl (u1q rfl rfl rfl rfl rfl (by simp [xnq]) (twin_s t.nodes t.root (by omega) hvals) ?_)
      rintro w hp1 nw1 (⟨hn, rfl, rfl, rfl⟩ | ⟨rfl, rfl, rfl⟩)
      · skip
        refine zdq rfl rfl (zaq rfl rfl (zeq ?_))
        refine zfq (zjq ?_)
        refine zlq (by intro h; cases h) ?_
        refine uUq (w' := .tup [tW t, .int .i64 0]) (.inr rfl) rfl (.tup (.cons (.agg (.cons ?_ (.cons (.pur rfl) .nil))) (.cons (.pur rfl) .nil))) (by simp) ⟨t, n, t0, h, hall, rfl⟩
        rw [hn]
        exact .nilfz
      · skip
        refine zdq rfl rfl (zaq rfl rfl (zeq ?_))
        refine zfq (zjq ?_)
        refine zlq (by intro h; cases h) ?_
        exact uUq (w' := .tup [tW t, .int .i64 0]) (.inr rfl) rfl (.tup (.cons (vkq (b := 6) (ns := t.nodes) (root := t.root) (by show some (70, renW _ (nsW t.nodes)) = _; rw [yBq (qTq t.nodes)])) (.cons (.pur rfl) .nil))) (by simp) ⟨t, n, t0, h, hall, rfl⟩
    | some v =>
      have hs : (t0.find k 0).isSome = true := by rw [hf]; rfl
      have hd := (x3q k t0 j2q h.ok hs).2
      refine pe_inV (fn := Try.f9) rfl rfl rfl (Nat.le_of_ble_eq_true rfl) (fun R k0 => ?_)
      refine zcq (zbq (zdq rfl rfl (zdq rfl rfl (zdq rfl rfl (zdq rfl rfl (zaq rfl rfl (zeq ?_)))))))
      refine zfq (zcq (zcq (zbq (zdq rfl rfl (zsq rfl rfl rfl rfl rfl rfl (yXq (w' := .int .i64 0) (qqq t (by omega)) (by rw [if_pos yes])) ?_)))))
      refine zaq rfl rfl (zeq ?_)
      refine zfq (zcq (zbq (zaq rfl rfl (zEq rfl rfl ?_))))
      refine zeq ?_
      refine zfq (zCq rfl (ziq (zfq (zcq (zcq (zbq (zdq rfl rfl (zaq rfl rfl (zaq rfl (uCq rfl rfl rfl rfl (uwq .zero .zero)) (zeq ?_))))))))))
      refine zfq (zCq rfl (ziq (zfq (zcq (zcq (zbq (zdq rfl rfl (zdq rfl rfl (zsq rfl rfl rfl rfl rfl rfl (yXq (w' := .tup [bW v, .bool true]) (tget_s t n t0 k h.toIsT) (by rw [hf]; rfl)) ?_)))))))))
      refine zaq rfl rfl (zaq rfl rfl (zaq rfl rfl (zaq rfl rfl (zaq rfl rfl (zeq ?_)))))
      refine zfq (zcq (zbq (zaq rfl rfl (zaq rfl rfl (zeq ?_)))))
      refine zfq (zCq rfl (ziq (zfq (zcq (zbq (zdq rfl rfl (zdq rfl rfl ?_)))))))
      (refine z3q rfl (step_pe rfl rfl rfl rfl rfl (tdrop_s t n t0 k h.toIsT hs hl) (by simp) ?_); rintro w hw ⟨t', n', ht', rfl⟩)
      refine zaq rfl rfl (zaq rfl rfl (zdq rfl rfl (zaq rfl rfl (zeq ?_))))
      refine zfq (zjq ?_)
      exact uUq (w' := .tup [tW t', .int .i64 0]) (.inr rfl) rfl (.pur (by simp)) (by simp) ⟨t', n', _, ⟨ht', fun p hp => h.held p (by rw [hd] at hp; exact (mem_withoutL.1 hp).1)⟩, by rw [hd]; unfold setL; rw [if_pos rfl], rfl⟩
  · have hp := (jEq k (qyq a) 256 t0 (d := 0) (b := qSq) rfl j2q h.ok (Nat.zero_le _)).2
    have e : eqW cfg 300 29 (aW a) (aW .zero) = some false := by rw [uwq, decide_eq_false hz]
    refine pe_inV (fn := Try.f9) rfl rfl rfl (Nat.le_of_ble_eq_true rfl) (fun R k0 => ?_)
    refine zcq (zbq (zdq rfl rfl (zdq rfl rfl (zdq rfl rfl (zdq rfl rfl (zaq rfl rfl (zeq ?_)))))))
    refine zfq (zcq (zcq (zbq (zdq rfl rfl (zsq rfl rfl rfl rfl rfl rfl (yXq (w' := .int .i64 0) (qqq t (by omega)) (by rw [if_pos yes])) ?_)))))
    refine zaq rfl rfl (zeq ?_)
    refine zfq (zcq (zbq (zaq rfl rfl (zEq rfl rfl ?_))))
    refine zeq ?_
    refine zfq (zCq rfl (ziq (zfq (zcq (zcq (zbq (zdq rfl rfl (zaq rfl rfl (zaq rfl (uCq rfl rfl rfl rfl e) (zeq ?_))))))))))
    refine zfq (zQq rfl (zcq (z0q (zGq rfl rfl ?_))))
    refine zGq rfl rfl ?_
    refine zGq rfl rfl ?_
    refine qKq rfl rfl rfl rfl rfl rfl (abytes_s a ha) ?_
    (refine yMq rfl (step_pe rfl rfl rfl rfl rfl (tput_s t n t0 k (qyq a) false h.toIsT (mayp_bytes k a) hl) (by simp) ?_); rintro w hw ⟨t', n', ht', rfl⟩; refine ⟨by first | rfl | kernel_rfl, ?_⟩)
    refine zhq rfl rfl (zhq rfl rfl (zGq rfl rfl ?_))
    refine zhq rfl rfl (z9q ?_)
    refine zfq (zjq ?_)
    refine zlq (by intro h; cases h) ?_
    exact uUq (w' := .tup [tW t', .int .i64 0]) (.inr rfl) rfl (.pur (by simp)) (by simp) ⟨t', n', _, ⟨ht', fun p hq => by
      rw [hp] at hq
      rcases mem_withL.1 hq with rfl | ⟨q, _⟩
      · simp only; rw [read_bytes a ha hz]
      · exact h.held p q⟩, by rw [hp]; unfold setL; rw [if_neg hz], rfl⟩
end Go.Proofs.Ytgeelfdgnehdnaa
namespace Go.Proofs.Ytgeelfdgnehdnaa
open Go.RowKit
set_option linter.unusedSimpArgs false
set_option linter.unusedVariables false
attribute [local irreducible] CoW OpW FlW Step Spec
variable {G : Nat → Option W}
theorem step_add64 {o : Oper} {fr : FrW} {hp : HpW} {nw : Nat} {R : Res} {post : W → HpW → Nat → Res → Option EvW → Prop} {x : Operand} {xs : Array Operand} {ats : Array TypeId} {f : FuncId} {a b : Nat}
    (ho : o.op = .call ⟨.value x, xs, ats⟩) (hx : evW cfg G fr x = some (.fn f [] [])) (he : cfg.ext f = some add64V) (hxs : evLW cfg G fr xs.toList = some [.int .u64 ((a : Nat) : Int), .int .u64 ((b : Nat) : Int), .int .u64 ((0 : Nat) : Int)])
    (hpost : post (.tup [.int .u64 (((a + b) % 18446744073709551616 : Nat) : Int), .int .u64 (((a + b) / 18446744073709551616 : Nat) : Int)]) hp nw R (some .gen)) : Step cfg G o fr hp nw R post := by
  refine step_ext ho hx he hxs (fun Γ vs h => ?_) hpost
  simp only [List.nil_append, List.append_nil, RVL_cons, RV_int] at h
  obtain ⟨v1, vs1, rfl, rfl, v2, vs2, rfl, rfl, v3, vs3, rfl, rfl, h⟩ := h
  obtain rfl : vs3 = [] := by simpa [RVL] using h
  refine ⟨.tup [.int .u64 (.ofNat ((a + b + 0) % 18446744073709551616)), .int .u64 (.ofNat ((a + b + 0) / 18446744073709551616))], rfl, ?_⟩
  rw [RV_tup]
  refine ⟨_, rfl, ?_⟩
  simp only [RVL_cons, RV_int]
  exact ⟨_, _, rfl, rfl, _, _, rfl, rfl, rfl⟩
theorem total1_s (n lo hi : Nat) (hh : hi + (lo + n) / 18446744073709551616 < 18446744073709551616) : qVq cfg G 41 2 [.int .u64 (n : Int), .ptr 0 0, .ptr 1 0] [(0, 27, .int .u64 (lo : Int)), (1, 27, .int .u64 (hi : Int))] fun w hp nw =>
    hp = [(0, 27, .int .u64 (((lo + n) % 18446744073709551616 : Nat) : Int)), (1, 27, .int .u64 ((hi + (lo + n) / 18446744073709551616 : Nat) : Int))] ∧ nw = 2 := by
  intro R
  refine yuq (fn := Try.f41) rfl rfl rfl (Nat.le_of_ble_eq_true rfl) (fun k0 => ?_)
  refine zcq (zbq (zdq rfl rfl (zaq rfl rfl ?_)))
  (refine z3q rfl (step_add64 (a := lo) (b := n) rfl rfl rfl rfl ?_))
  refine zaq rfl rfl (zaq rfl rfl (zaq rfl rfl (zaq rfl rfl (zaq rfl rfl (zeq ?_)))))
  refine zfq (z0q (zhq rfl rfl (zGq rfl rfl ?_)))
  refine zhq rfl rfl (jyq (hi + (lo + n) / 18446744073709551616) rfl rfl (by first | rfl | omega) ⟨by omega, by omega⟩ ?_)
  refine zGq rfl rfl ?_
  refine zGq rfl rfl ?_
  refine z9q ?_
  exact fin (w := .tup []) (.inl rfl) (vWq (fr2 := []) trivial rfl rfl) rfl ⟨rfl, rfl, rfl⟩
noncomputable def totH (t : Tree) (a : Nat) : HpW := [(3, 83, .fn 41 [] [.ptr 2 0, .ptr 1 0]), (2, 27, .int .u64 ((a % 18446744073709551616 : Nat) : Int)), (1, 27, .int .u64 ((a / 18446744073709551616 : Nat) : Int)), (0, 24, tW t)]
def bal (p : Pr) : Nat := (qhq p.2).1.balance
def sumB (l : List Pr) : Nat := (l.map bal).sum
theorem bal_lt (p : Pr) : bal p < 18446744073709551616 := by
  unfold bal qhq
  split
  · exact Nat.zero_lt_succ _
  · split
    · exact Nat.zero_lt_succ _
    · split
      · exact Nat.zero_lt_succ _
      · have h := Yxq (p.2.drop 8)
        have e : (p.2.drop 8).length = 8 := by rw [List.length_drop]; omega
        rw [e] at h
        exact h
theorem sumB_take {l : List Pr} {i : Nat} {y : Pr} (h : l[i]? = some y) : sumB (l.take (i + 1)) = sumB (l.take i) + bal y := by
  rw [List.take_add_one, h]
  simp [sumB]
theorem sumB_lt : ∀ l : List Pr, sumB l ≤ l.length * 18446744073709551615
  | [] => by simp [sumB]
  | p :: l => by
    have h1 := bal_lt p
    have h2 := sumB_lt l
    simp only [sumB, List.map_cons, List.sum_cons, List.length_cons] at h2 ⊢
    omega
theorem atotal_no (t : Tree) (hb : t.nodes.length ≤ 4611686018427387903) (h : ¬ MayA t) : PS cfg G 16 [tW t] (.tup [.int .u64 ((0 : Nat) : Int), .int .u64 ((0 : Nat) : Int), .int .i64 8]) := by
  refine ynq (fn := Try.f16) rfl rfl rfl (Nat.le_of_ble_eq_true rfl) (fun R k0 => ?_)
  refine zcq (zbq (zdq rfl rfl (zdq rfl rfl (zdq rfl rfl (zaq rfl rfl (zeq ?_))))))
  refine zfq (zcq (zcq (zbq (zdq rfl rfl (zsq rfl rfl rfl rfl rfl rfl (yXq (w' := .int .i64 8) (qqq t hb) (by rw [if_neg h])) ?_)))))
  refine zaq rfl rfl (zeq ?_)
  refine zfq (zcq (zbq (zaq rfl rfl (zEq rfl rfl ?_))))
  refine zeq ?_
  refine zfq (zQq rfl (zcq (zbq (zaq rfl rfl (zdq rfl rfl (zdq rfl rfl (zaq rfl rfl (zeq ?_))))))))
  refine zfq (zjq ?_)
  refine zlq (by intro h; cases h) ?_
  exact znq (.inr rfl) rfl rfl
theorem atotal_s (t : Tree) (n : Nat) (t0 : T) (h : IsA t n t0) : PS cfg G 16 [tW t] (.tup [.int .u64 ((sumB t0.all / 18446744073709551616 : Nat) : Int), .int .u64 ((sumB t0.all % 18446744073709551616 : Nat) : Int), .int .i64 0]) := by
  have yes : MayA t := ⟨n, t0, h⟩
  have hl := h.len
  have hal := h.all_le
  refine ynq (fn := Try.f16) rfl rfl rfl (Nat.le_of_ble_eq_true rfl) (fun R k0 => ?_)
  refine zcq (zbq (zdq rfl rfl (zdq rfl rfl (zdq rfl rfl (zaq rfl rfl (zeq ?_))))))
  refine zfq (zcq (zcq (zbq (zdq rfl rfl (zsq rfl rfl rfl rfl rfl rfl (yXq (w' := .int .i64 0) (qqq t (by omega)) (by rw [if_pos yes])) ?_)))))
  refine zaq rfl rfl (zeq ?_)
  refine zfq (zcq (zbq (zaq rfl rfl (zEq rfl rfl ?_))))
  refine zeq ?_
  refine zfq (zCq rfl (ziq (zfq (zcq (zbq (zaq rfl rfl (zdq rfl rfl (zdq rfl rfl (zeq ?_)))))))))
  refine zfq (zcq (zcq (zbq (zdq rfl rfl (zsq rfl rfl rfl rfl rfl rfl (aeach_s _) ?_)))))
  refine zeq ?_
  refine zfq (zmq ?_)
  refine co_rangeG (encA) (t0.all) (fun i (a : Nat) => a = sumB (t0.all.take i)) (fun a => totH t a) (fun _ => R) (0) rfl (by first | rfl | assumption | (simp; done)) (aeach_it t n t0 h.toIsT) (encA_ok) (by simp [sumB]) rfl rfl (fun i a y hy hI => ?_) (fun a hI => ?_)
  · have hi := (List.getElem?_eq_some_iff.1 hy).1
    have hs := sumB_take hy
    have hb := sumB_lt (t0.all.take (i + 1))
    have hb2 : (t0.all.take (i + 1)).length ≤ 262144 := by rw [List.length_take]; omega
    rw [← hI] at hs
    rw [hs] at hb
    refine zbq (zdq rfl rfl (zdq rfl rfl (zeq ?_)))
    refine Ynq (zmq (zbq (zdq rfl rfl (zaq rfl rfl (zdq rfl rfl ?_)))))
    (refine z3q rfl (q8q (ext := [2, 1]) (ws := [.int .u64 ((bal y : Nat) : Int), .ptr 0 0, .ptr 1 0]) rfl rfl rfl rfl rfl (total1_s (bal y) (a % 18446744073709551616) (a / 18446744073709551616) (by omega)) (by decide) (by intro b hb; simp only [List.mem_cons, List.not_mem_nil, or_false] at hb; show b < 5; omega) (by simp) (YDq rfl rfl rfl rfl) rfl ?_); rintro w hp1 nw1 ⟨rfl, rfl⟩)
    refine zeq ?_
    refine ztq (by intro i h; cases h) ?_
    refine Ylq (sumB (t0.all.take (i + 1))) rfl (uxq (nw2 := 4) (by show 4 ≤ 4; omega) (by show 4 ≤ 5; omega) trivial rfl (fun b x hb => ?_) (by show ([3, 2, 1, 0] : List Nat).Nodup; decide))
    have e1 : (a % 18446744073709551616 + bal y) % 18446744073709551616 = sumB (t0.all.take (i + 1)) % 18446744073709551616 := by rw [hs]; omega
    have e2 : a / 18446744073709551616 + (a % 18446744073709551616 + bal y) / 18446744073709551616 = sumB (t0.all.take (i + 1)) / 18446744073709551616 := by rw [hs]; omega
    match b, hb with
    | 0, hb => cases hb; exact ⟨by omega, rfl, zyq (tW_pur t)⟩
    | 1, hb => cases hb; exact ⟨by omega, by show some (27, W.int .u64 _) = _; rw [e2], rfl⟩
    | 2, hb => cases hb; exact ⟨by omega, by show some (27, W.int .u64 _) = _; rw [e1], rfl⟩
    | 3, hb => cases hb; exact ⟨by omega, rfl, rfl⟩
    | b + 4, hb => cases hb
  · rw [List.take_length] at hI
    subst hI
    refine ztq (by intro i h; cases h) ?_
    refine zfq (zcq (z0q (zGq rfl rfl ?_)))
    refine zGq rfl rfl ?_
    refine zGq rfl rfl ?_
    refine zGq rfl rfl ?_
    refine zhq rfl rfl (z9q ?_)
    refine zfq (zjq ?_)
    exact znq (.inr rfl) rfl rfl
end Go.Proofs.Ytgeelfdgnehdnaa
namespace Go.Proofs.Ytgeelfdgnehdnaa
open Go.RowKit
set_option linter.unusedSimpArgs false
set_option linter.unusedVariables false
attribute [local irreducible] CoW OpW FlW Step Spec
variable {G : Nat → Option W}
def Z6q (t : Tree) (m : Nat) : Prop := m < t.nodes.length ∨ ∃ i x, i ≤ m ∧ t.nodes[i]? = some x ∧ 100 < x.val.length
noncomputable instance (t : Tree) (m : Nat) : Decidable (Z6q t m) := Classical.propDecidable _
theorem great_s (t : Tree) (m : Nat) (hb : t.nodes.length ≤ 4611686018427387903) (hm : m ≤ 4611686018427387903) : PS cfg G 8 [tW t, .int .i64 (m : Int)] (.bool (decide (Z6q t m))) := by
  have e : (t.nodes.map nW).length = t.nodes.length := List.length_map _
  refine ynq (fn := Try.f8) rfl rfl rfl (Nat.le_of_ble_eq_true rfl) (fun R k0 => ?_)
  refine zcq (zbq (zdq rfl rfl (zaq rfl rfl (zeq ?_))))
  refine zfq (zcq (zcq (zbq (zaq rfl rfl (zeq ?_)))))
  refine zfq (zmq ?_)
  refine ySq (α := Nat) (fun i => i ≤ t.nodes.length ∧ ∀ j x, j < i → t.nodes[j]? = some x → x.val.length ≤ 100) (fun i => [(5, .int .i64 (i : Int))]) [(1, _), (2, _), (4, _)] (fun i => t.nodes.length - i) (0) ⟨rfl, rfl, rfl, trivial⟩ (⟨Nat.zero_le _, fun j x h => by omega⟩) ⟨rfl, trivial⟩ (fun i hI => ?_)
  obtain ⟨hI, hJ⟩ := hI
  refine zcq (zcq (zbq (zaq rfl rfl (zaq rfl rfl (zdq rfl rfl (zXq (w' := .int .i64 (t.nodes.length : Int)) rfl rfl (by rw [← e]; rfl) ?_))))))
  refine yYq rfl rfl (fun h1 => ?_) (fun h1 => ?_)
  · have hi : i < t.nodes.length := by omega
    obtain ⟨x, hx⟩ : ∃ x, t.nodes[i]? = some x := ⟨_, List.getElem?_eq_getElem hi⟩
    have ex := yqq x.val
    refine zaq rfl rfl (zaq rfl rfl (zaq rfl rfl (zEq rfl rfl ?_)))
    refine zaq rfl rfl (zeq ?_)
    refine zfq ?_
    refine zHq rfl (fun h2 => ?_) (fun h2 => ?_)
    · refine ziq (zfq (zcq (zmq (zcq (zbq (zaq rfl rfl (zdq rfl rfl (zaq rfl rfl (zaq rfl (z8q (i := i) rfl rfl rfl rfl rfl rfl rfl (yKq nW hx)) (zaq rfl rfl (zdq rfl rfl (zXq (w' := .int .i64 (x.val.length : Int)) rfl rfl (by rw [← ex]; rfl) ?_))))))))))))
      refine zEq rfl rfl ?_
      refine zeq ?_
      refine zfq ?_
      refine zHq rfl (fun h3 => ?_) (fun h3 => ?_)
      · refine zcq (zbq (zaq rfl rfl (zeq ?_)))
        refine zfq (zjq ?_)
        refine ztq (by intro i h; cases h) ?_
        refine zlq (by intro h; cases h) ?_
        refine ykq (by intro h; cases h) ?_
        refine ztq (by intro i h; cases h) ?_
        refine zlq (by intro h; cases h) ?_
        exact znq (.inr rfl) rfl (by rw [decide_eq_true (show Z6q t m from .inr ⟨i, x, by omega, hx, by omega⟩)])
      · refine ziq (ztq (by intro i h; cases h) ?_)
        refine zfq (zbq (zaq rfl rfl (zAq (i + 1) rfl rfl (by first | rfl | omega) ⟨by omega, by omega⟩ ?_)))
        refine zaq rfl rfl (zeq ?_)
        exact yjq (i + 1) (⟨hi, fun j y hj hy => by rcases Nat.lt_succ_iff_lt_or_eq.1 hj with q | rfl; exact hJ j y q hy; have := Option.some.inj (hx.symm.trans hy); subst this; omega⟩) (by omega) ⟨rfl, trivial⟩ ⟨rfl, rfl, rfl, trivial⟩ (by repeat (first | exact trivial | refine ⟨by first | rfl | exact zyq (by first | rfl | (simp; done)), ?_⟩)) (by omega) (by repeat (first | exact zMq | refine zPq (by omega) ?_ | refine zNq (by omega) ?_ | refine zOq (by omega) ?_)) rfl
    · refine ytq ?_
      refine zlq (by intro h; cases h) ?_
      refine ykq (by intro h; cases h) ?_
      refine qpq (zfq (zcq (zbq (zaq rfl rfl (zdq rfl rfl (zXq (w' := .int .i64 (t.nodes.length : Int)) rfl rfl (by rw [← e]; rfl) ?_))))))
      refine zaq rfl rfl (zEq rfl rfl ?_)
      refine zaq rfl rfl (zeq ?_)
      refine zfq (zjq ?_)
      exact znq (.inr rfl) rfl (by rw [decide_eq_true (show Z6q t m from .inl (by omega))]; congr 1; exact decide_eq_true (show (m : Int) < (t.nodes.length : Int) by omega))
  · refine zaq rfl rfl (zgq rfl (zgq rfl (zgq rfl (zaq rfl rfl (zeq ?_)))))
    refine zfq (zCq rfl (ytq ?_))
    refine zlq (by intro h; cases h) ?_
    refine ykq (by intro h; cases h) ?_
    refine qpq (zfq (zcq (zbq (zaq rfl rfl (zdq rfl rfl (zXq (w' := .int .i64 (t.nodes.length : Int)) rfl rfl (by rw [← e]; rfl) ?_))))))
    refine zaq rfl rfl (zEq rfl rfl ?_)
    refine zaq rfl rfl (zeq ?_)
    refine zfq (zjq ?_)
    refine znq (.inr rfl) rfl ?_
    congr 1
    refine decide_eq_decide.2 ⟨fun q => .inl (show m < t.nodes.length by have q : (m : Int) < (t.nodes.length : Int) := q; omega), ?_⟩
    rintro (q | ⟨j, x, _, hx, hq⟩)
    · show (m : Int) < (t.nodes.length : Int)
      omega
    · have := hJ j x (by have := (List.getElem?_eq_some_iff.1 hx).1; omega) hx
      omega
theorem cv_str {C : Cfg} {G : Nat → Option W} {fr : FrW} {hp : HpW} {nw : Nat} {s t e : TypeId} {x : Operand} {js jt : TyI} {l : List UInt8} {f : Bool} (hs : C.ty s = some js) (ht : C.ty t = some jt) (hx : evW C G fr x = some (.fz (zDq l) 1 f)) (hjs : js.d = .slice e) (hjt : jt.d = .str) (he : vYq C e = some (.int .u8)) : opHW C G fr hp nw (.convert s t x) = some (.str l, hp, nw, .gen) := by
  simp only [opHW, hConv, hs, ht, hx, hjs, hjt, he, bytesOf_W]
theorem same_s (a b : List UInt8) (f g : Bool) : PS cfg G 28 [.fz (zDq a) 1 f, .fz (zDq b) 1 g] (.bool (decide (a = b))) := by
  refine ynq (fn := Try.f28) rfl rfl rfl (Nat.le_of_ble_eq_true rfl) (fun R k0 => ?_)
  refine zcq (zbq (zaq rfl rfl (zeq ?_)))
  refine zfq (zcq (zbq (zaq rfl rfl (zdq rfl (cv_str rfl rfl rfl rfl rfl rfl) (zaq rfl rfl (zdq rfl (cv_str rfl rfl rfl rfl rfl rfl) (zXq (w' := .bool (decide (a = b))) rfl rfl (congrArg W.bool (jZq a b)) (zaq rfl rfl (zeq ?_)))))))))
  refine zfq (zjq ?_)
  exact znq (.inr rfl) rfl rfl
end Go.Proofs.Ytgeelfdgnehdnaa
namespace Go.Proofs.Ytgeelfdgnehdnaa
open Go.RowKit
set_option linter.unusedSimpArgs false
set_option linter.unusedVariables false
mutual
theorem vsq {τ : Nat → Nat} {b : Nat} (h : ∀ i, i < b → τ i = i) : ∀ {w : W}, refB b w = true → renW τ w = w
  | .ptr c o, hw => by simp only [renW]; rw [h c (of_decide_eq_true hw)]
  | .sl c _ _ _ _ _, hw => by simp only [renW]; rw [h c (of_decide_eq_true hw)]
  | .fz l _ _, hw => by simp only [renW]; rw [kdq h (l := l) hw]
  | .fel x, hw => by simp only [renW]; rw [vsq h (w := x) hw]
  | .fn _ a c, hw => by
    simp only [refB, Bool.and_eq_true] at hw
    simp only [renW]; rw [kdq h (l := a) hw.1, kdq h (l := c) hw.2]
  | .iface _ v, hw => by simp only [renW]; rw [vsq h (w := v) hw]
  | .agg _ l, hw => by simp only [renW]; rw [kdq h (l := l) hw]
  | .arr _ _ l, hw => by simp only [renW]; rw [kdq h (l := l) hw]
  | .tup l, hw => by simp only [renW]; rw [kdq h (l := l) hw]
  | .undef, _ => rfl
  | .bool _, _ => rfl
  | .int _ _, _ => rfl
  | .str _, _ => rfl
  | .nilp, _ => rfl
  | .nils, _ => rfl
  | .nilm, _ => rfl
  | .yield _, _ => rfl
  | .nilf, _ => rfl
  | .nili, _ => rfl
theorem kdq {τ : Nat → Nat} {b : Nat} (h : ∀ i, i < b → τ i = i) : ∀ {l : List W}, refL b l = true → qaq τ l = l
  | [], _ => rfl
  | w :: l, hw => by
    simp only [refL, Bool.and_eq_true] at hw
    simp only [qaq]; rw [vsq h (w := w) hw.1, kdq h (l := l) hw.2]
end
mutual
theorem kfq {b c : Nat} (h : b ≤ c) : ∀ {w : W}, refB b w = true → refB c w = true
  | .ptr d o, hw => decide_eq_true (Nat.lt_of_lt_of_le (of_decide_eq_true hw) h)
  | .sl d _ _ _ _ _, hw => decide_eq_true (Nat.lt_of_lt_of_le (of_decide_eq_true hw) h)
  | .fz l _ _, hw => jwq h (l := l) hw
  | .fel x, hw => kfq h (w := x) hw
  | .fn _ a d, hw => by
    simp only [refB, Bool.and_eq_true] at hw ⊢
    exact ⟨jwq h hw.1, jwq h hw.2⟩
  | .iface _ v, hw => kfq h (w := v) hw
  | .agg _ l, hw => jwq h (l := l) hw
  | .arr _ _ l, hw => jwq h (l := l) hw
  | .tup l, hw => jwq h (l := l) hw
  | .undef, _ => rfl
  | .bool _, _ => rfl
  | .int _ _, _ => rfl
  | .str _, _ => rfl
  | .nilp, _ => rfl
  | .nils, _ => rfl
  | .nilm, _ => rfl
  | .yield _, _ => rfl
  | .nilf, _ => rfl
  | .nili, _ => rfl
theorem jwq {b c : Nat} (h : b ≤ c) : ∀ {l : List W}, refL b l = true → refL c l = true
  | [], _ => rfl
  | w :: l, hw => by
    simp only [refL, Bool.and_eq_true] at hw ⊢
    exact ⟨kfq h hw.1, jwq h hw.2⟩
end
noncomputable def gW (b e : Nat) : List W → W
  | [] => .nils
  | x :: r => .sl b 0 0 (x :: r).length e none
noncomputable def gH (b : Nat) (ty : TypeId) (e : Nat) : List W → HpW
  | [] => []
  | x :: r => [(b, ty, .arr ((x :: r).length * e) e (x :: r))]
noncomputable def evG : List W → EvW
  | [] => .gen
  | _ :: _ => .dirty
theorem evs_G {ops : Array Oper} {i : Nat} {es : List (Nat × EvW)} {l : List W} (h1 : evsW ops i .gen es = true) (h2 : evsW ops i .dirty es = true) : evsW ops i (evG l) es = true := by cases l <;> assumption
theorem gW_some {b e : Nat} {l : List W} (h : l ≠ []) : gW b e l = .sl b 0 0 l.length e none := by cases l with
  | nil => exact absurd rfl h
  | cons x r => rfl
theorem gH_some {b e : Nat} {ty : TypeId} {l : List W} (h : l ≠ []) : gH b ty e l = [(b, ty, .arr (l.length * e) e l)] := by cases l with
  | nil => exact absurd rfl h
  | cons x r => rfl
section
variable {C : Cfg} {nw : Nat} {ts tx ty : TypeId} {j k : TyI} {x : W} {news l : List W} {b : Nat} {H0 : HpW}
theorem hdel_pre {b : Nat} {x : TypeId × W} : ∀ {P : HpW}, (∀ p ∈ P, p.1 ≠ b) → hdel (P ++ [(b, x)]) b = P
  | [], _ => by
    show (match Nat.beq b b with | true => [] | false => _) = []
    rw [Nat.beq_refl]
  | (c, y) :: P, h => by
    have hc := h (c, y) (List.mem_cons_self ..)
    have e : Nat.beq c b = false := by
      cases q : Nat.beq c b with
      | true => exact absurd (Nat.eq_of_beq_eq_true q) hc
      | false => rfl
    show (match Nat.beq c b with | true => P ++ [(b, x)] | false => (c, y) :: hdel (P ++ [(b, x)]) b) = _
    rw [e]
    exact congrArg _ (hdel_pre fun p hp => h p (List.mem_cons_of_mem _ hp))
theorem xZq {b : Nat} {x : TypeId × W} : ∀ {P : HpW}, (∀ p ∈ P, p.1 ≠ b) → hget (P ++ [(b, x)]) b = some x
  | [], _ => by rw [List.nil_append, zFq, if_pos rfl]
  | (c, y) :: P, h => by
    rw [List.cons_append, zFq, if_neg fun e => h (c, y) (List.mem_cons_self ..) e]
    exact xZq fun p hp => h p (List.mem_cons_of_mem _ hp)
theorem ZJq {c : Nat} {y : TypeId × W} {Q : HpW} : ∀ {P : HpW}, hget P c = some y → hget (P ++ Q) c = some y
  | [], h => by simp [hget] at h
  | (q, z) :: P, h => by
    rw [List.cons_append, zFq]
    rw [zFq] at h
    split at h
    · rename_i h5; rw [if_pos h5]; exact h
    · rename_i h5; rw [if_neg h5]; exact ZJq h
theorem Z1q (P : HpW) {e : Nat} {hp : HpW} (he : e = k.size) (hj : C.ty ts = some j) (hd : j.d = .slice ty) (hk : C.ty ty = some k) (hz : Nat.beq k.size 0 = false) (hs : srcW C hp tx k.size x = some news) (hn : news ≠ []) (h1 : (l.length + news.length) * k.bytes ≤ 140737488355328) (h2 : l.length + news.length ≤ 70368744177664)
    (hg : hp = P ++ gH b ty e l) (hP : ∀ p ∈ P, p.1 ≠ b) :
    appW C hp nw ts tx (gW b e l) x = some (.sl nw 0 0 (l ++ news).length e none, (nw, ty, .arr ((l ++ news).length * e) e (l ++ news)) :: P, nw + 1, evG l) := by
  subst he
  have hk0 : 0 < k.size := by
    rcases Nat.eq_zero_or_pos k.size with h0 | h0
    · rw [h0] at hz; cases hz
    · exact h0
  have hnl : 0 < news.length := by cases news with
    | nil => exact absurd rfl hn
    | cons _ _ => simp
  cases l with
  | nil =>
    simp only [List.length_nil, Nat.zero_add] at h1 h2
    rw [show gW b k.size [] = .nils from rfl, Zhq hj hd hk hz hs hn h1 h2, hg, show gH b ty k.size [] = [] from rfl, List.append_nil]
    rfl
  | cons y r =>
    have hget : hget hp b = some (ty, .arr ((y :: r).length * k.size) k.size (y :: r)) := by rw [hg]; exact xZq hP
    rw [show gW b k.size (y :: r) = .sl b 0 0 (y :: r).length k.size none from rfl, uWq hj hd hk hz hs hn h1 h2 hget (by
      show (y :: r).length * k.size < 0 + ((y :: r).length + news.length) * k.size
      rw [Nat.zero_add]
      exact Nat.mul_lt_mul_of_pos_right (by omega) hk0) (by rw [Nat.beq_refl]) (qeq hk0 rfl rfl)]
    rw [hg, show gH b ty k.size (y :: r) = [(b, ty, .arr ((y :: r).length * k.size) k.size (y :: r))] from rfl, hdel_pre hP, List.length_append]
    rfl
theorem app_gr0 {hp : HpW} {e : Nat} (he : e = k.size) (hj : C.ty ts = some j) (hd : j.d = .slice ty) (hk : C.ty ty = some k) (hz : Nat.beq k.size 0 = false) (hs : srcW C hp tx k.size x = some []) : appW C hp nw ts tx (gW b e l) x = some (gW b e l, hp, nw, .gen) := by
  subst he
  cases l with
  | nil => exact YRq hj hd hk hz hs
  | cons y r => exact YQq hj hd hk hz hs
end
theorem Zxq {b e : Nat} {ty : TypeId} {l : List W} {H0 : HpW} (he : 0 < e) (hl : purL l = true) (hP : ∀ p ∈ H0, p.1 ≠ b) : View (blkA (H0 ++ gH b ty e l)) (gW b e l) (.fz l e false) := by
  cases l with
  | nil => exact .nilfz
  | cons y r => exact .sl (c := .arr ((y :: r).length * e) e (y :: r)) (by
      unfold blkA
      rw [show H0 ++ gH b ty e (y :: r) = H0 ++ [(b, ty, .arr ((y :: r).length * e) e (y :: r))] from rfl, xZq hP]) hl (qeq he rfl rfl) (by intro h; cases h)
theorem view_sl {b e n : Nat} {ty : TypeId} {l : List W} {H0 : HpW} (he : 0 < e) (hn : n = l.length) (hl : purL l = true) : View (blkA ((b, ty, .arr (n * e) e l) :: H0)) (.sl b 0 0 n e none) (.fz l e false) := by
  subst hn
  exact .sl (c := .arr (l.length * e) e l) (by
      unfold blkA
      rw [zFq, if_pos rfl]) hl (qeq he rfl rfl) (by intro h; cases h)
section
variable {C : Cfg} {G : Nat → Option W} {m k0 : Nat} {rd : Bool} {fr fr2 : FrW} {hp hp' : HpW} {nw nw' : Nat} {R : Res} {Q : qzq} {c : Code}
theorem ent_up (hf : subF fr fr2) : Ent C G m k0 fr hp nw R fr2 hp (nw + 1) R := fun Γ X st hnw hmn s => by
  let Γ2 : Ctx := ⟨nw + 1, Γ.σ, Γ.D, Γ.h⟩
  have le : Γ.Le Γ2 := ⟨by rw [hnw]; exact Nat.le_succ _, fun _ _ => rfl, fun _ h => h, fun _ _ => rfl⟩
  refine ⟨Γ2, X, rfl, ⟨s.hh, fun t w hw => ?_, ⟨s.sat.wf, fun b ty w hb => ?_, s.sat.inj, s.sat.nd, s.sat.dX, s.sat.xlt, s.sat.dlt, s.sat.res, s.sat.gl⟩, s.ds, s.nd⟩, ⟨fun _ _ => rfl, fun h => Nat.le_trans h le.nw, Nat.le_refl _, fun _ _ _ _ => rfl, fun _ h => h, fun _ h => .inl h, fun b x _ h => ⟨x, h⟩, fun b x hb h => .inr ⟨b, x, hb, h, rfl⟩, fun _ h => .inl h, fun _ h _ _ => h⟩⟩
  · obtain ⟨v, g3, g4⟩ := s.fr _ _ (u0q hf t w hw)
    exact ⟨v, g3, g4.mono le⟩
  · obtain ⟨q1, q2, q3, v, q4, q5⟩ := s.sat.own _ _ _ hb
    exact ⟨Nat.lt_of_lt_of_le q1 le.nw, q2, q3, v, q4, q5.mono le⟩
theorem subR_low {k : Nat} : ∀ {l : FrW}, subF fr l → refF nw l → subR (tau1 nw k) (nw + 1) fr l
  | [], _, _ => trivial
  | (t, w) :: l, h, r => ⟨⟨by rw [vsq (fun i hi => jHq (by omega)) r.1]; exact h.1, kfq (Nat.le_succ _) r.1⟩, subR_low h.2 r.2⟩
theorem subRH_low {k : Nat} : ∀ {l : HpW}, subH hp nw l → subRH (tau1 nw k) (nw + 1) hp l
  | [], _ => trivial
  | (b, x) :: l, h => ⟨⟨Nat.lt_succ_of_lt h.1.1, by rw [jHq (by have := h.1.1; omega), vsq (fun i hi => jHq (by omega)) h.1.2.2]; exact h.1.2.1, kfq (Nat.le_succ _) h.1.2.2⟩, subRH_low h.2⟩
theorem Ycq : ∀ {l : HpW}, subH hp nw l → ∀ p ∈ l, p.1 < nw
  | [], _, p, h => by simp at h
  | (b, x) :: l, h, p, hp => by
    rcases List.mem_cons.1 hp with rfl | hp
    · exact h.1.1
    · exact Ycq h.2 p hp
theorem subH_mono : ∀ {l : HpW}, subH hp nw l → subH hp (nw + 1) l
  | [], _ => trivial
  | (b, x) :: l, h => ⟨⟨Nat.lt_succ_of_lt h.1.1, h.1.2.1, kfq (Nat.le_succ _) h.1.2.2⟩, subH_mono h.2⟩
theorem subRH_app {τ : Nat → Nat} {n : Nat} {b : HpW} : ∀ {a : HpW}, subRH τ n hp a → subRH τ n hp b → subRH τ n hp (a ++ b)
  | [], _, h => h
  | _ :: _, h, h2 => ⟨h.1, subRH_app h.2 h2⟩
theorem subH_app {n : Nat} {b : HpW} : ∀ {a : HpW}, subH hp n a → subH hp n b → subH hp n (a ++ b)
  | [], _, h => h
  | _ :: _, h, h2 => ⟨h.1, subH_app h.2 h2⟩
theorem nodup_g {H0 : HpW} {b e : Nat} {ty : TypeId} {l2 : List W} (hh : ∀ p ∈ H0, p.1 < b) (nd : (H0.map (·.1)).Nodup) : ((H0 ++ gH b ty e l2).map (·.1)).Nodup := by
  cases l2 with
  | nil => rw [show gH b ty e [] = [] from rfl, List.append_nil]; exact nd
  | cons x r =>
    rw [show gH b ty e (x :: r) = [(b, ty, .arr ((x :: r).length * e) e (x :: r))] from rfl, List.map_append, List.nodup_append]
    refine ⟨nd, by simp, fun a ha c hc q => ?_⟩
    obtain ⟨p, h1, h2⟩ := List.mem_map.1 ha
    have := hh p h1
    simp only [List.map_cons, List.map_nil, List.mem_cons, List.not_mem_nil, or_false] at hc
    omega
theorem co_loopG {α : Type} (I : α → Prop) (s : Nat) (L : α → List W) (ty : TypeId) (e : Nat) (V : α → FrW) (kf : FrW) (H0 : HpW) (μ : α → Nat) (a0 : α) (hk : subF fr kf) (h0 : I a0) (hv : subF fr (V a0)) (hL : L a0 = []) (hs : getW fr s = some .nils) (hh : hp = H0)
    (step : ∀ a, I a → CoW C G m k0 rd c ((s, gW nw e (L a)) :: (V a ++ kf)) (H0 ++ gH nw ty e (L a)) (nw + 1) R (xfq C G m k0 I (fun a => (s, gW nw e (L a)) :: (V a ++ kf)) (fun a => H0 ++ gH nw ty e (L a)) (fun _ => nw + 1) (fun _ => R) μ (μ a) Q)) : CoW C G m k0 rd (.loop c) fr hp nw R Q := by
  subst hh
  refine YOq I (fun a => (s, gW nw e (L a)) :: (V a ++ kf)) (fun a => hp ++ gH nw ty e (L a)) (fun _ => nw + 1) (fun _ => R) μ a0 h0 ?_ step
  have := ent_up (C := C) (G := G) (m := m) (k0 := k0) (fr := fr) (fr2 := (s, gW nw e (L a0)) :: (V a0 ++ kf)) (hp := hp) (nw := nw) (R := R) ⟨by rw [hL]; exact hs, q5q hv hk⟩
  rw [hL] at this ⊢
  rw [show gH nw ty e [] = [] from rfl, List.append_nil]
  exact this
theorem jcq {b : Nat} {ty : TypeId} {e : Nat} {H0 : HpW} {l2 : List W} {n : Nat} (k s : Nat) (hm : m ≤ b) (hk : b ≤ k) (hk2 : k < nw) (hne : l2 ≠ []) (hs : getW fr s = some (.sl k 0 0 n e none)) (hn : n = l2.length) (hf : subF fr fr2) (hr : refF b fr2) (hg : hget hp k = some (ty, .arr (n * e) e l2)) (hp2 : purL l2 = true) (hh : subH hp b H0) (nd : (H0.map (·.1)).Nodup) :
    Ent C G m k0 fr hp nw R ((s, gW b e l2) :: fr2) (H0 ++ gH b ty e l2) (b + 1) R := by
  subst hn
  have hpa : purW (.arr (l2.length * e) e l2) = true := hp2
  refine joq (b := b) (k := k) hm hk hk2 ?_ ?_ (nodup_g (Ycq hh) nd)
  · rw [gW_some hne]
    refine ⟨⟨?_, by simp [refB]⟩, subR_low hf hr⟩
    rw [hs]
    simp only [renW, ugq]
  · rw [gH_some hne]
    refine subRH_app (subRH_low hh) ⟨⟨Nat.lt_succ_self _, ?_, zyq hpa⟩, trivial⟩
    rw [ugq, hg, yBq hpa]
theorem q_againG {α : Type} {I : α → Prop} {s : Nat} {L : α → List W} {ty : TypeId} {e : Nat} {V : α → FrW} {kf : FrW} {H0 : HpW} {μ : α → Nat} {kk : Nat} {fr' : FrW} {l2 : List W} {n : Nat} (k : Nat) (a : α) (ha : I a) (hμ : μ a < kk) (hm : m ≤ nw) (hL : L a = l2) (hne : l2 ≠ []) (hk : nw ≤ k) (hk2 : k < nw') (hs : getW fr' s = some (.sl k 0 0 n e none)) (hn : n = l2.length)
    (hv : subF fr' (V a)) (hkf : subF fr' kf) (hr : refF nw (V a)) (hr2 : refF nw kf) (hg : hget hp' k = some (ty, .arr (n * e) e l2)) (hp2 : purL l2 = true) (hh : subH hp' nw H0) (nd : (H0.map (·.1)).Nodup) :
    xfq C G m k0 I (fun a => (s, gW nw e (L a)) :: (V a ++ kf)) (fun a => H0 ++ gH nw ty e (L a)) (fun _ => nw + 1) (fun _ => R) μ kk Q .normal fr' hp' nw' R := by
  subst hL
  exact vvq a ha hμ (jcq k s hm hk hk2 hne hs hn (q5q hv hkf) (xNq hr hr2) hg hp2 hh nd)
theorem refF_up : ∀ {q : FrW}, refF nw q → refF (nw + 1) q
  | [], _ => trivial
  | _ :: _, h => ⟨kfq (Nat.le_succ _) h.1, refF_up h.2⟩
theorem vdq {b : Nat} {ty : TypeId} {e : Nat} {H0 : HpW} {l2 : List W} (s : Nat) (hm : m ≤ b) (hnw : b + 1 ≤ nw) (hs : getW fr s = some (gW b e l2)) (hf : subF fr fr2) (hr : refF b fr2) (hg : ∀ x r, l2 = x :: r → hget hp b = some (ty, .arr ((x :: r).length * e) e (x :: r))) (hp2 : purL l2 = true) (hh : subH hp b H0) (nd : (H0.map (·.1)).Nodup) :
    Ent C G m k0 fr hp nw R ((s, gW b e l2) :: fr2) (H0 ++ gH b ty e l2) (b + 1) R := by
  refine uxq (by omega) hnw ⟨hs, hf⟩ ?_ (Ydq (subH_app (subH_mono hh) ?_)) (nodup_g (Ycq hh) nd)
  · refine u2q ⟨?_, refF_up hr⟩
    cases l2 with
    | nil => rfl
    | cons x r => simp [gW, refB]
  · cases l2 with
    | nil => trivial
    | cons x r =>
      have hpa : purW (.arr ((x :: r).length * e) e (x :: r)) = true := hp2
      exact ⟨⟨Nat.lt_succ_self _, hg x r rfl, zyq hpa⟩, trivial⟩
theorem q_againG0 {α : Type} {I : α → Prop} {s : Nat} {L : α → List W} {ty : TypeId} {e : Nat} {V : α → FrW} {kf : FrW} {H0 : HpW} {μ : α → Nat} {kk : Nat} {fr' : FrW} {l2 : List W} (a : α) (ha : I a) (hμ : μ a < kk) (hm : m ≤ nw) (hL : L a = l2) (hs : getW fr' s = some (gW nw e l2))
    (hv : subF fr' (V a)) (hkf : subF fr' kf) (hr : refF nw (V a)) (hr2 : refF nw kf) (hg : hp' = H0 ++ gH nw ty e l2) (hp2 : purL l2 = true) (hh : subH hp' nw H0) (nd : (H0.map (·.1)).Nodup) (hnw : nw + 1 ≤ nw') :
    xfq C G m k0 I (fun a => (s, gW nw e (L a)) :: (V a ++ kf)) (fun a => H0 ++ gH nw ty e (L a)) (fun _ => nw + 1) (fun _ => R) μ kk Q .normal fr' hp' nw' R := by
  subst hL
  refine vvq a ha hμ (vdq s hm hnw hs (q5q hv hkf) (xNq hr hr2) (fun x r hq => ?_) hp2 hh nd)
  rw [hg, hq]
  exact xZq fun p hp => by have := Ycq hh p hp; omega
theorem ent_blk {b : Nat} {ty : TypeId} {w w' : W} (hb : hget hp b = some (ty, w)) (he : ∀ Γ v, RV Γ w v → RV Γ w' v) : Ent C G m k0 fr hp nw R fr (hset hp b (ty, w')) nw R := fun Γ X st h1 _ s => by
  have hold : ∀ {k t u}, hget (hset hp b (ty, w')) k = some (t, u) → ∃ u0, hget hp k = some (t, u0) ∧ ∀ v, RV Γ u0 v → RV Γ u v := fun {k t u} h => by
    rw [kJq hb] at h
    split at h
    · rename_i e
      subst e
      cases h
      exact ⟨w, hb, he Γ⟩
    · exact ⟨u, h, fun _ q => q⟩
  have howns : ∀ {c}, Owns Γ (hset hp b (ty, w')) c → Owns Γ hp c := fun {c} h => by
    obtain ⟨k, ⟨t, u⟩, h1, h2⟩ := h
    obtain ⟨u0, g, _⟩ := hold h1
    exact ⟨k, _, g, h2⟩
  refine ⟨Γ, X, h1, ⟨s.hh, s.fr, ⟨s.sat.wf, fun k t u h => ?_, fun k k' y z hy hz e => ?_, by rw [vGq]; exact s.sat.nd, s.sat.dX, s.sat.xlt, s.sat.dlt, s.sat.res, s.sat.gl⟩, fun d hd => ?_, s.nd⟩, ⟨fun _ _ => rfl, fun h => h, Nat.le_refl _, fun _ _ _ _ => rfl, fun _ h => h, fun _ h => .inl h, fun k y _ h => ?_, fun k y hk h => ?_, fun _ h => .inl h, fun _ h _ _ => h⟩⟩
  · obtain ⟨u0, g1, g2⟩ := hold h
    obtain ⟨q1, q2, q3, v, q4, q5⟩ := s.sat.own k t u0 g1
    exact ⟨q1, q2, q3, v, q4, g2 v q5⟩
  · obtain ⟨y1, y2⟩ := y
    obtain ⟨z1, z2⟩ := z
    obtain ⟨u0, g1, _⟩ := hold hy
    obtain ⟨u1, g2, _⟩ := hold hz
    exact s.sat.inj k k' _ _ g1 g2 e
  · obtain ⟨q1, q2, q3, q4, q5⟩ := s.ds d hd
    exact ⟨q1, q2, q3, fun h => q4 (howns h), q5⟩
  · obtain ⟨y1, y2⟩ := y
    obtain ⟨u0, g1, _⟩ := hold h
    exact ⟨_, g1⟩
  · obtain ⟨y1, y2⟩ := y
    obtain ⟨u0, g1, _⟩ := hold h
    exact .inr ⟨k, _, hk, g1, rfl⟩
theorem ent_one {b : Nat} {ty : TypeId} {e : Nat} {x : W} (k s : Nat) (hm : m ≤ b) (hk : b ≤ k) (hk2 : k < nw) (hs : getW fr s = some (.sl k 0 0 1 e none)) (hg : hget hp k = some (ty, x)) (hxa : x.isAgg = true) (hxs : x.size = e) (hp2 : purW x = true) : Ent C G m k0 fr hp nw R [(s, gW b e [x])] (gH b ty e [x]) (b + 1) R := by
  refine (ent_blk hg (w' := .arr (1 * e) e [x]) fun Γ v hv => ?_).trans (jcq (fr2 := []) (H0 := []) k s hm hk hk2 (by simp) hs rfl trivial trivial (by rw [kJq hg, if_pos rfl]) (by simp only [purL, hp2, Bool.and_self]) trivial List.nodup_nil)
  refine ⟨by rw [← hv.1, hxa]; rfl, ?_⟩
  have hl := qQq hv.2
  simp only [RS]
  exact ⟨by omega, fun y hy => by simp at hy; rw [hy, hxs], RSL_one hv.2⟩
theorem vmq {o : Oper} {post : W → HpW → Nat → Res → Option EvW → Prop} {x : Operand} {xs : Array Operand} {ats : Array TypeId} {f : FuncId} {a us c ws : List W} {Q : W → HpW → Nat → Prop} (ho : o.op = .call ⟨.value x, xs, ats⟩) (hx : evW C G fr x = some (.fn f a c)) (he : C.ext f = none) (hxs : evLW C G fr xs.toList = some us) (hws : a ++ us ++ c = ws) (hpw : purL ws = true) (sp : qVq C G f 0 ws [] Q)
    (hpost : ∀ w hp1 nw1, Q w hp1 nw1 → post (renW (numC [] nw) w) (renH (numC [] nw) hp1 ++ hp) (nw + nw1) R (some .gen)) : Step C G o fr hp nw R post := fun Γ X frv hnw s hf => by
  subst hnw
  obtain ⟨u, e1, e2⟩ := yaq hf s.gl hx
  obtain ⟨a', c', rfl, e3, e4⟩ := RV_fn.1 e2
  obtain ⟨us', e5, e6⟩ := knq hf s.gl hxs
  have app : ∀ {l r : List W} {l' r' : List V}, RVL Γ l l' → RVL Γ r r' → RVL Γ (l ++ r) (l' ++ r') := fun {l} => by
    induction l with
    | nil => intro r l' r' h1 h2; simp only [RVL] at h1; subst h1; exact h2
    | cons w l ih =>
      intro r l' r' h1 h2
      simp only [RVL] at h1
      obtain ⟨v, vs, rfl, h3, h4⟩ := h1
      simp only [List.cons_append, RVL]
      exact ⟨v, vs ++ r', rfl, h3, ih h4 h2⟩
  have hv := app (app e3 e6) e4
  rw [hws, ← jTq (τ := numC [] Γ.nw) hpw] at hv
  obtain ⟨n, v, Γ', w, hp1, nw1, g1, g2, g3, g4, g5, g6, g7, g8⟩ := call_spec (ext := []) sp s List.nodup_nil (by simp) (by simp) (fun i ty w h => by simp [hget] at h) (zyq (w := .tup ws) hpw) hv
  obtain ⟨k1, k2⟩ := uAq (C := C) ho frv Γ.h
  refine ⟨n, _, _, R, some .gen, v, Γ'.h, Γ', X, by rw [g3]; exact hpost w hp1 nw1 g2, ?_, ⟨k1, fun H1 e1' e2' => ?_⟩, rfl, g4, g5, g6, g7⟩
  · simp only [opV, k1, k2]
    simp only [ho, qUq, e1, e5, he]
    exact g1
  · have := g8 rfl e2'
    simp only [EvR, ho, evOf]
    rw [e1', Nat.ble_eq_true_of_le this]
noncomputable def PL (C : Cfg) (G : Nat → Option W) (f : FuncId) (ws : List W) (ty : TypeId) (e : Nat) (l : List W) : Prop := qVq C G f 0 ws [] fun w hp nw => w = gW 0 e l ∧ hp = gH 0 ty e l ∧ nw = 1
theorem PL.ps {C : Cfg} {G : Nat → Option W} {f : FuncId} {ws : List W} {ty : TypeId} {e : Nat} {l : List W} (h : PL C G f ws ty e l) (he : 0 < e) (hl : purL l = true) : PS C G f ws (.fz l e false) := fun R =>
  spec_view fun Γ X vs h1 s hv => by
    obtain ⟨n, v, Γ', X', w, hp', R', g1, g2, g3, g4, g5, rfl, rfl, g6⟩ := h R Γ X vs h1 s hv
    exact ⟨n, v, Γ', X', _, _, R', g1, g2, g3, g4, g5, Zxq (H0 := []) he hl (by simp)⟩
theorem kDq {o : Oper} {post : W → HpW → Nat → Res → Option EvW → Prop} {x : Operand} {xs : Array Operand} {ats : Array TypeId} {f : FuncId} {a us c ws : List W} {ty : TypeId} {e : Nat} {l : List W} (ho : o.op = .call ⟨.value x, xs, ats⟩) (hx : evW C G fr x = some (.fn f a c)) (he : C.ext f = none) (hxs : evLW C G fr xs.toList = some us) (hws : a ++ us ++ c = ws) (hpw : purL ws = true) (sp : PL C G f ws ty e l) (hl : purL l = true)
    (hpost : post (gW nw e l) (gH nw ty e l ++ hp) (nw + 1) R (some .gen)) : Step C G o fr hp nw R post := by
  refine vmq ho hx he hxs hws hpw sp ?_
  rintro w hp1 nw1 ⟨rfl, rfl, rfl⟩
  have e1 : renW (numC [] nw) (gW 0 e l) = gW nw e l := by
    cases l with
    | nil => rfl
    | cons x r => simp only [gW, renW]; rfl
  have e2 : renH (numC [] nw) (gH 0 ty e l) = gH nw ty e l := by
    cases l with
    | nil => rfl
    | cons x r =>
      have hpa : purW (.arr ((x :: r).length * e) e (x :: r)) = true := hl
      simp only [gH, renH, yBq hpa]; rfl
  rw [e1, e2]
  exact hpost
variable {ops : Array Oper} {l : List Oper} {K : FrW → HpW → Nat → Res → Prop} {hp2 : HpW} {nw2 : Nat} {R2 : Res}
theorem uMq (e : ∀ k0, Ent C G m k0 fr hp nw R fr2 hp2 nw2 R2) (h : OpW C G m ops l fr2 hp2 nw2 R2 K) : OpW C G m ops l fr hp nw R K := fun Γ X frv hnw hm s hf => by
  obtain ⟨Γ2, X2, e1, e2, e3⟩ := e 0 Γ X ⟨frv, Γ.h, [], false⟩ hnw hm ⟨rfl, hf, s, by simp, List.nodup_nil⟩
  obtain ⟨n, frv', Γ', X', fr', hp', R', g1, g2, g3, g4, g5⟩ := h Γ2 X2 frv e1 (e1 ▸ e3.mle (hnw ▸ hm)) e2.sat e2.fr
  have hh : Γ.h = Γ2.h := e2.hh
  exact ⟨n, frv', Γ', X', fr', hp', R', by rw [hh]; exact g1, g2, g3, e3.trans g4, g5⟩
theorem op_z {o : Oper} {k : IntKind} {z : Int} (z' : Int) (hw : qtq ops fr o = some true) (hx : qdq C G fr o.op = some (.int k (j4q k z))) (e : z = z') (hz : inK k z') (h : OpW C G m ops l (putW fr o.dst (.int k z')) hp nw R K) : OpW C G m ops (o :: l) fr hp nw R K := by
  subst e; exact unq hw hx hz h
theorem Yuq {o : Oper} {ts tx ty : TypeId} {j k : TyI} {x y : Operand} {u : W} {xs news : List W} {b e d : Nat} {H0 : HpW} (P : HpW) (fr2 : FrW) (he : e = k.size) (hw : qtq ops fr o = some true) (ho : o.op = .call ⟨.builtin .append, #[x, y], #[ts, tx]⟩) (hd0 : o.dst = some d) (hx : evW C G fr x = some (gW b e xs)) (hy : evW C G fr y = some u)
    (hj : C.ty ts = some j) (hd : j.d = .slice ty) (hk : C.ty ty = some k) (hz : Nat.beq k.size 0 = false) (hs : srcW C hp tx k.size u = some news) (h1 : (xs.length + news.length) * k.bytes ≤ 140737488355328) (h2 : xs.length + news.length ≤ 70368744177664) (hg : hp = P ++ gH b ty e xs) (hP : ∀ p ∈ P, p.1 ≠ b) (hm : m ≤ b) (hb : b < nw)
    (hf : subF fr fr2) (hdf : getW fr2 d = none) (hr : refF b fr2) (hpx : purL (xs ++ news) = true) (hh : subH P b H0) (nd : (H0.map (·.1)).Nodup)
    (h : OpW C G m ops l ((d, gW b e (xs ++ news)) :: fr2) (H0 ++ gH b ty e (xs ++ news)) (b + 1) R K) : OpW C G m ops (o :: l) fr hp nw R K := by
  have hput : ∀ w, subF (putW fr o.dst w) fr2 := fun w => by
    rw [hd0]
    have key : ∀ {q : FrW}, subF fr q → getW q d = none → subF (putW fr (some d) w) q := fun {q} => by
      induction q with
      | nil => exact fun _ _ => trivial
      | cons p q ih =>
        obtain ⟨t, v⟩ := p
        intro h1 h2
        simp only [getW] at h2
        split at h2
        · cases h2
        · rename_i hne
          refine ⟨?_, ih h1.2 h2⟩
          show getW ((d, w) :: fr) t = some v
          have : Nat.beq d t = false := by
            cases hq : Nat.beq d t with
            | false => rfl
            | true =>
              have := Nat.eq_of_beq_eq_true hq
              subst this
              rw [Nat.beq_refl] at hne; cases hne
          simp only [getW, this]
          exact h1.1
    exact key hf hdf
  have front : ∀ {Q : HpW} {q : HpW}, subH P b q → subH (P ++ Q) b q := fun {Q q} => by
    induction q with
    | nil => exact fun _ => trivial
    | cons p q ih => exact fun h => ⟨⟨h.1.1, ZJq h.1.2.1, h.1.2.2⟩, ih h.2⟩
  cases news with
  | nil =>
    have ha : opHW C G fr hp nw o.op = some (gW b e xs, hp, nw, .gen) := by rw [ho]; exact jCq hx hy (app_gr0 he hj hd hk hz hs)
    refine zdq hw ha ?_
    rw [List.append_nil] at h hpx
    refine uMq (fun k0 => vdq (b := b) (l2 := xs) d hm (by omega) (by rw [hd0]; show getW ((d, gW b e xs) :: fr) d = _; simp [getW]) (hput _) hr (fun x r hq => ?_) hpx (by rw [hg]; exact front hh) nd) h
    rw [hg, hq]
    exact xZq hP
  | cons z zs =>
    have ha : opHW C G fr hp nw o.op = some (.sl nw 0 0 (xs ++ z :: zs).length e none, (nw, ty, .arr ((xs ++ z :: zs).length * e) e (xs ++ z :: zs)) :: P, nw + 1, evG xs) := by
      rw [ho]; exact jCq hx hy (Z1q P he hj hd hk hz hs (by simp) h1 h2 hg hP)
    refine zdq hw ha ?_
    refine uMq (fun k0 => jcq nw d hm (by omega) (Nat.lt_succ_self _) (by simp) (by rw [hd0]; show getW ((d, _) :: fr) d = _; simp [getW]) rfl (hput _) hr (by rw [zFq, if_pos rfl]) hpx ?_ nd) h
    have key : ∀ {q : HpW}, subH P b q → subH ((nw, ty, W.arr ((xs ++ z :: zs).length * e) e (xs ++ z :: zs)) :: P) b q := fun {q} => by
      induction q with
      | nil => exact fun _ => trivial
      | cons p q ih =>
        obtain ⟨c, y⟩ := p
        exact fun h => ⟨⟨h.1.1, by rw [zFq, if_neg (by have := h.1.1; omega)]; exact h.1.2.1, h.1.2.2⟩, ih h.2⟩
    exact key hh
end
end Go.Proofs.Ytgeelfdgnehdnaa
namespace Go.Proofs.Ytgeelfdgnehdnaa
open Go.RowKit
set_option linter.unusedSimpArgs false
set_option linter.unusedVariables false
attribute [local irreducible] CoW OpW FlW Step Spec
variable {G : Nat → Option W}
theorem voq (l : List UInt8) (f : Bool) (hl : l.length ≤ 70368744177664) : PS cfg G 36 [.fz (zDq l) 1 f] (bW l) := by
  refine xbq (fn := Try.f36) rfl rfl rfl (Nat.le_of_ble_eq_true rfl) (fun R k0 => ?_)
  cases l with
  | nil =>
    skip
    refine zcq (zbq (zaq rfl rfl (zeq ?_)))
    refine zfq (zcq (zbq (zaq rfl rfl (zeq ?_))))
    refine zfq (zcq (zbq (zaq rfl rfl (zaq rfl rfl (zdq rfl (jCq rfl rfl (YRq rfl rfl rfl rfl rfl)) (zaq rfl rfl (zeq ?_)))))))
    refine zfq (zjq ?_)
    refine kPq (by first | exact .inr rfl | exact .inl rfl) rfl ?_
    (repeat (first | exact .nil | refine .cons ?_ ?_ | exact qiq | exact .nilfz | refine .fn ?_ ?_ | (refine y7q rfl ?_ rfl; (first | rfl | (focus (simp; done)))) | (refine .sl rfl ?_ rfl (by intro h; cases h); (first | rfl | (focus (simp; done)))) | (refine .pur ?_; (first | rfl | (focus (simp; done)))) | (refine .fzw ?_; (first | rfl | (focus (simp; done)))) | refine .agg ?_ | refine .arr ?_ | refine .tup ?_))
  | cons c l =>
    simp only [List.length_cons] at hl
    refine zcq (zbq (zaq rfl rfl (zeq ?_)))
    refine zfq (zcq (zbq (zaq rfl rfl (zeq ?_))))
    refine zfq (zcq (zbq (zaq rfl rfl (zaq rfl rfl (zdq rfl (jCq rfl rfl (Zhq (news := zDq (c :: l)) (k := ti5) rfl rfl rfl rfl rfl (by simp [zDq]) (by show (zDq (c :: l)).length * 1 ≤ _; rw [yqq]; simp only [List.length_cons]; omega) (by rw [yqq]; simp only [List.length_cons]; omega))) ?_)))))
    refine zaq rfl rfl (zeq ?_)
    refine zfq (zjq ?_)
    refine kPq (by first | exact .inr rfl | exact .inl rfl) rfl ?_
    exact view_sl (by decide) rfl (by simp)
@[simp] theorem psW_drop (ps : List Pr) (i : Nat) : purL ((ps.map pW).drop i) = true := by rw [← List.map_drop]; exact jKq _
@[simp] theorem psW_take (ps : List Pr) (i : Nat) : purL ((ps.map pW).take i) = true := by rw [← List.map_take]; exact jKq _
theorem rptwin_s (ps : List Pr) (f : Bool) (hb : ps.length ≤ 1000000000) (hv : ∀ x ∈ ps, x.2.length ≤ 70368744177664) : PS cfg G 82 [.fz (ps.map pW) 33 f] (psW ps) := by
  have e : (ps.map pW).length = ps.length := List.length_map _
  refine xbq (fn := Try.f82) rfl rfl rfl (Nat.le_of_ble_eq_true rfl) (fun R k0 => ?_)
  refine zcq (zbq (zaq rfl rfl (zeq ?_)))
  refine zfq (zcq (zbq (zaq rfl rfl (zeq ?_))))
  refine zfq (zcq (zcq (zbq (zaq rfl rfl (zeq ?_)))))
  refine zfq (zmq ?_)
  refine co_loopG (α := Nat) (fun i => i ≤ ps.length) 3 (fun i => (ps.take i).map pW) 88 33 (fun i => [(4, .int .i64 (i : Int))]) [(0, _), (2, _)] _ (fun i => ps.length - i) (0) ⟨rfl, rfl, trivial⟩ (Nat.zero_le _) ⟨rfl, trivial⟩ rfl rfl rfl (fun i hI => ?_)
  refine zcq (zcq (zbq (zaq rfl rfl (zaq rfl rfl (zXq (w' := .int .i64 (ps.length : Int)) rfl rfl (by rw [← e]; rfl) ?_)))))
  refine zEq rfl rfl ?_
  refine zeq ?_
  refine zfq ?_
  refine zHq rfl (fun h1 => ?_) (fun h1 => ?_)
  · have hi : i < ps.length := by omega
    obtain ⟨x, hx⟩ : ∃ x, ps[i]? = some x := ⟨_, List.getElem?_eq_getElem hi⟩
    have hxv := hv x (List.mem_of_getElem? hx)
    refine ziq (zfq (zcq (zmq (z0q (zhq rfl rfl (zhq rfl rfl (zhq rfl rfl (zhq rfl (z8q (i := i) rfl rfl rfl rfl rfl rfl rfl (yKq pW hx)) (zhq rfl rfl (zGq rfl rfl ?_))))))))))
    refine zhq rfl rfl (zhq rfl rfl (zhq rfl (z8q (i := i) rfl rfl rfl rfl rfl rfl rfl (yKq pW hx)) (zhq rfl rfl (zGq rfl rfl ?_))))
    refine qKq rfl rfl rfl rfl rfl rfl (voq _ _ (by first | assumption | omega)) ?_
    refine zhq rfl rfl (zGq rfl rfl ?_)
    refine jjq rfl (jCq rfl rfl (Z1q [_] (k := ti88) (news := [pW x]) rfl rfl rfl rfl rfl (jQq rfl rfl rfl rfl) (by simp) (by show (((ps.take i).map pW).length + 1) * 56 ≤ _; simp; omega) (by show ((ps.take i).map pW).length + 1 ≤ _; simp; omega) rfl (by simp))) (evs_G (by first | rfl | kernel_rfl) (by first | rfl | kernel_rfl)) ?_
    refine zhq rfl rfl (z9q ?_)
    refine ztq (by intro i h; cases h) ?_
    refine zfq (zbq (zaq rfl rfl (zAq (i + 1) rfl rfl (by first | rfl | omega) ⟨by omega, by omega⟩ ?_)))
    refine zaq rfl rfl (zeq ?_)
    exact q_againG 2 (i + 1) (hi) (by omega) (Nat.zero_le _) (by rw [List.take_add_one, hx, List.map_append]; rfl) (by simp) (by omega) (by first | omega | decide) rfl rfl ⟨rfl, trivial⟩ ⟨rfl, rfl, trivial⟩ (by repeat (first | exact trivial | refine ⟨by first | rfl | exact zyq (by first | rfl | (simp; done)), ?_⟩)) (by repeat (first | exact trivial | refine ⟨by first | rfl | exact zyq (by first | rfl | (simp; done)), ?_⟩)) rfl (by first | rfl | assumption | (simp; done)) (by repeat (first | exact trivial | refine ⟨⟨by decide, rfl, by first | rfl | exact zyq (by first | rfl | (simp; done))⟩, ?_⟩)) (by first | decide | simp)
  · have hi : i = ps.length := by omega
    subst hi
    refine ytq ?_
    refine zlq (by intro h; cases h) ?_
    refine q_out (by intro h; cases h) ?_
    refine qpq (zfq (zcq (zbq (zaq rfl rfl (zaq rfl rfl (zeq ?_))))))
    refine zfq (zjq ?_)
    refine kPq (by first | exact .inr rfl | exact .inl rfl) rfl ?_
    rw [List.take_length]
    exact Zxq (H0 := []) (by decide) (jKq _) (by simp)
def idxP (ps : List Pr) (k : Dig) : Int := match ps.findIdx? (fun p => decide (p.1 = k)) with
  | some i => i
  | none => -1
theorem rfind_s (ps : List Pr) (f : Bool) (k : Dig) (hb : ps.length ≤ 1000000000) : PS cfg G 39 [.fz (ps.map pW) 33 f, dW k] (.int .i64 (idxP ps k)) := by
  have e : (ps.map pW).length = ps.length := List.length_map _
  refine ynq (fn := Try.f39) rfl rfl rfl (Nat.le_of_ble_eq_true rfl) (fun R k0 => ?_)
  refine zcq (zbq (zdq rfl rfl (zaq rfl rfl (zeq ?_))))
  refine zfq (zcq (zcq (zbq (zaq rfl rfl (zeq ?_)))))
  refine zfq (zmq ?_)
  refine ySq (α := Nat) (fun i => i ≤ ps.length ∧ ∀ j x, j < i → ps[j]? = some x → x.1 ≠ k) (fun i => [(5, .int .i64 (i : Int))]) [(0, _), (3, _), (4, _)] (fun i => ps.length - i) (0) ⟨rfl, rfl, rfl, trivial⟩ (⟨Nat.zero_le _, fun j x h => by omega⟩) ⟨rfl, trivial⟩ (fun i hI => ?_)
  obtain ⟨g1, g2⟩ := hI
  refine zcq (zcq (zbq (zaq rfl rfl (zaq rfl rfl (zXq (w' := .int .i64 (ps.length : Int)) rfl rfl (by rw [← e]; rfl) ?_)))))
  refine zEq rfl rfl ?_
  refine zeq ?_
  refine zfq ?_
  refine zHq rfl (fun h1 => ?_) (fun h1 => ?_)
  · have hi : i < ps.length := by omega
    obtain ⟨x, hx⟩ : ∃ x, ps[i]? = some x := ⟨_, List.getElem?_eq_getElem hi⟩
    refine ziq (zfq (zcq (zmq (zcq (z0q (zhq rfl rfl (zhq rfl rfl (zhq rfl (z8q (i := i) rfl rfl rfl rfl rfl rfl rfl (yKq pW hx)) (zhq rfl rfl (zGq rfl rfl ?_))))))))))
    refine zGq rfl rfl ?_
    refine fl_cmp rfl (qbq rfl rfl rfl rfl (qPq rfl rfl rfl rfl rfl rfl _ _ 250)) yQq ?_
    refine z9q ?_
    refine zfq ?_
    refine zHq rfl (fun h2 => ?_) (fun h2 => ?_)
    · refine zcq (zbq (zaq rfl rfl (zaq rfl rfl (zeq ?_))))
      refine zfq (zjq ?_)
      refine ztq (by intro i h; cases h) ?_
      refine zlq (by intro h; cases h) ?_
      refine ykq (by intro h; cases h) ?_
      refine ztq (by intro i h; cases h) ?_
      refine zlq (by intro h; cases h) ?_
      refine znq (.inr rfl) rfl ?_
      have : ps.findIdx? (fun p => decide (p.1 = k)) = some i := by
        rw [List.findIdx?_eq_some_iff_getElem]
        refine ⟨hi, ?_, fun j hj => ?_⟩
        · have := (List.getElem?_eq_some_iff.1 hx).2
          rw [this]; exact decide_eq_true h2
        · simp only [decide_eq_true_eq]
          exact g2 j _ hj (List.getElem?_eq_getElem (by omega))
      unfold idxP
      rw [this]
    · refine ziq (ztq (by intro i h; cases h) ?_)
      refine zfq (zbq (zaq rfl rfl (zAq (i + 1) rfl rfl (by first | rfl | omega) ⟨by omega, by omega⟩ ?_)))
      refine zaq rfl rfl (zeq ?_)
      exact yjq (i + 1) (⟨hi, fun j y hj hy => by rcases Nat.lt_succ_iff_lt_or_eq.1 hj with q | rfl; exact g2 j y q hy; have := Option.some.inj (hx.symm.trans hy); subst this; exact h2⟩) (by omega) ⟨rfl, trivial⟩ ⟨rfl, rfl, rfl, trivial⟩ (by repeat (first | exact trivial | refine ⟨by first | rfl | exact zyq (by first | rfl | (simp; done)), ?_⟩)) (by omega) (by repeat (first | exact zMq | refine zPq (by omega) ?_ | refine zNq (by omega) ?_ | refine zOq (by omega) ?_)) rfl
  · refine ytq ?_
    refine zlq (by intro h; cases h) ?_
    refine ykq (by intro h; cases h) ?_
    refine qpq (zfq (zcq (zbq (zaq rfl rfl (zeq ?_)))))
    refine zfq (zjq ?_)
    refine znq (.inr rfl) rfl ?_
    have : ps.findIdx? (fun p => decide (p.1 = k)) = none := by
      rw [List.findIdx?_eq_none_iff]
      intro x hx
      obtain ⟨j, hj⟩ := List.getElem?_of_mem hx
      have := (List.getElem?_eq_some_iff.1 hj).1
      exact decide_eq_false (g2 j x (by omega) hj)
    unfold idxP
    rw [this]
theorem uGq (ps : List Pr) (k : Dig) {i : Nat} {x : Pr} (hx : ps[i]? = some x) : yeq (ps.take (i + 1)) k = if x.1 = k then yeq (ps.take i) k else yeq (ps.take i) k ++ [x] := by
  unfold yeq
  rw [List.take_add_one, hx]
  simp only [Option.toList_some, List.filter_append]
  split
  · rename_i h; simp [h]
  · rename_i h; simp [h]
theorem without_len (ps : List Pr) (k : Dig) (i : Nat) : (yeq (ps.take i) k).length ≤ ps.length := Nat.le_trans (List.length_filter_le _ _) (by simp; omega)
theorem ZCq (ps : List Pr) (f : Bool) (k : Dig) (hb : ps.length ≤ 1000000000) (hv : ∀ x ∈ ps, x.2.length ≤ 70368744177664) : PS cfg G 65 [.fz (ps.map pW) 33 f, dW k] (psW (yeq ps k)) := by
  have e : (ps.map pW).length = ps.length := List.length_map _
  have hb' : (yeq ps k).length ≤ 1000000000 := Nat.le_trans (List.length_filter_le _ _) hb
  have hv' : ∀ x ∈ yeq ps k, x.2.length ≤ 70368744177664 := fun x hx => hv x (mem_withoutL.1 hx).1
  refine xbq (fn := Try.f65) rfl rfl rfl (Nat.le_of_ble_eq_true rfl) (fun R k0 => ?_)
  refine zcq (zbq (zdq rfl rfl (zaq rfl rfl (zeq ?_))))
  refine zfq (zcq (zbq (zaq rfl rfl (zeq ?_))))
  refine zfq (zcq (zcq (zbq (zaq rfl rfl (zeq ?_)))))
  refine zfq (zmq ?_)
  refine co_loopG (α := Nat) (fun i => i ≤ ps.length) 5 (fun i => (yeq (ps.take i) k).map pW) 88 33 (fun i => [(6, .int .i64 (i : Int))]) [(0, _), (3, _), (4, _)] _ (fun i => ps.length - i) (0) ⟨rfl, rfl, rfl, trivial⟩ (Nat.zero_le _) ⟨rfl, trivial⟩ rfl rfl rfl (fun i hI => ?_)
  have hl := without_len ps k i
  refine zcq (zcq (zbq (zaq rfl rfl (zaq rfl rfl (zXq (w' := .int .i64 (ps.length : Int)) rfl rfl (by rw [← e]; rfl) ?_)))))
  refine zEq rfl rfl ?_
  refine zeq ?_
  refine zfq ?_
  refine zHq rfl (fun h1 => ?_) (fun h1 => ?_)
  · have hi : i < ps.length := by omega
    obtain ⟨x, hx⟩ : ∃ x, ps[i]? = some x := ⟨_, List.getElem?_eq_getElem hi⟩
    refine ziq (zfq (zcq (zmq (zcq (z0q (zhq rfl rfl (zhq rfl rfl (zhq rfl (z8q (i := i) rfl rfl rfl rfl rfl rfl rfl (yKq pW hx)) (zhq rfl rfl (zGq rfl rfl ?_))))))))))
    refine zGq rfl rfl ?_
    refine fl_cmp rfl (uCq rfl rfl rfl rfl (qPq rfl rfl rfl rfl rfl rfl _ _ 250)) (uoq yQq) ?_
    refine z9q ?_
    refine zfq ?_
    refine zHq rfl (fun h2 => ?_) (fun h2 => ?_)
    · refine zbq (zaq rfl rfl (zaq rfl rfl (zaq rfl rfl (zaq rfl (z8q (i := i) rfl rfl rfl rfl rfl rfl rfl (yKq pW hx)) (zdq rfl rfl (zdq rfl rfl (zdq rfl (jCq rfl rfl (Z1q [_, _] (k := ti88) (news := [pW x]) rfl rfl rfl rfl rfl (jQq rfl rfl rfl rfl) (by simp) (by show (((yeq (ps.take i) k).map pW).length + 1) * 56 ≤ _; rw [List.length_map]; omega) (by show ((yeq (ps.take i) k).map pW).length + 1 ≤ _; rw [List.length_map]; omega) rfl (by simp))) ?_)))))))
      refine zaq rfl rfl (zeq ?_)
      refine ztq (by intro i h; cases h) ?_
      refine zfq (zbq (zaq rfl rfl (zAq (i + 1) rfl rfl (by first | rfl | omega) ⟨by omega, by omega⟩ ?_)))
      refine zaq rfl rfl (zeq ?_)
      exact q_againG 3 (i + 1) (hi) (by omega) (Nat.zero_le _) (by rw [uGq ps k hx, if_neg h2, List.map_append]; rfl) (by simp) (by omega) (by first | omega | decide) rfl rfl ⟨rfl, trivial⟩ ⟨rfl, rfl, rfl, trivial⟩ (by repeat (first | exact trivial | refine ⟨by first | rfl | exact zyq (by first | rfl | (simp; done)), ?_⟩)) (by repeat (first | exact trivial | refine ⟨by first | rfl | exact zyq (by first | rfl | (simp; done)), ?_⟩)) rfl (by first | rfl | assumption | (simp; done)) (by repeat (first | exact trivial | refine ⟨⟨by decide, rfl, by first | rfl | exact zyq (by first | rfl | (simp; done))⟩, ?_⟩)) (by first | decide | simp)
    · have hxk : x.1 = k := by simpa using h2
      refine ziq (ztq (by intro i h; cases h) ?_)
      refine zfq (zbq (zaq rfl rfl (zAq (i + 1) rfl rfl (by first | rfl | omega) ⟨by omega, by omega⟩ ?_)))
      refine zaq rfl rfl (zeq ?_)
      exact q_againG0 (i + 1) (hi) (by omega) (Nat.zero_le _) (by rw [uGq ps k hx, if_pos hxk]) rfl ⟨rfl, trivial⟩ ⟨rfl, rfl, rfl, trivial⟩ (by repeat (first | exact trivial | refine ⟨by first | rfl | exact zyq (by first | rfl | (simp; done)), ?_⟩)) (by repeat (first | exact trivial | refine ⟨by first | rfl | exact zyq (by first | rfl | (simp; done)), ?_⟩)) rfl (by first | rfl | assumption | (simp; done)) (by repeat (first | exact trivial | refine ⟨⟨by decide, rfl, by first | rfl | exact zyq (by first | rfl | (simp; done))⟩, ?_⟩)) (by first | decide | simp) (by omega)
  · have hi : i = ps.length := by omega
    subst hi
    rw [List.take_length]
    refine ytq ?_
    refine zlq (by intro h; cases h) ?_
    refine q_out (by intro h; cases h) ?_
    refine qpq (zfq (zcq (zbq ?_)))
    refine uMq (fun _ => ent_frzA (fr2 := [(5, psW (yeq ps k))]) ⟨⟨_, rfl, Zxq (H0 := [(0, 26, dW k)]) (by decide) (jKq _) (by simp)⟩, trivial⟩) ?_; refine zaq rfl rfl ?_
    refine zsq rfl rfl rfl rfl rfl rfl (rptwin_s _ _ (by assumption) (by assumption)) ?_
    refine zaq rfl rfl (zeq ?_)
    refine zfq (zjq ?_)
    refine kPq (by first | exact .inr rfl | exact .inl rfl) rfl ?_
    (repeat (first | exact .nil | refine .cons ?_ ?_ | exact qiq | exact .nilfz | refine .fn ?_ ?_ | (refine y7q rfl ?_ rfl; (first | rfl | (focus (simp; done)))) | (refine .sl rfl ?_ rfl (by intro h; cases h); (first | rfl | (focus (simp; done)))) | (refine .pur ?_; (first | rfl | (focus (simp; done)))) | (refine .fzw ?_; (first | rfl | (focus (simp; done)))) | refine .agg ?_ | refine .arr ?_ | refine .tup ?_))
def withR (l : List Pr) (k : Dig) (v : List UInt8) : List Pr := (yeq l k).takeWhile (fun p => yrq p.1 k) ++ (k, v) :: (yeq l k).dropWhile (fun p => yrq p.1 k)
theorem Zyq {α : Type} {p : α → Bool} : ∀ {l : List α} {n : Nat}, n ≤ l.length → (∀ j x, j < n → l[j]? = some x → p x = true) → (∀ x, l[n]? = some x → p x = false) → l.takeWhile p = l.take n ∧ l.dropWhile p = l.drop n
  | [], n, h, _, _ => by simp at h; subst h; simp
  | x :: l, 0, _, _, h => by have := h x rfl; simp [this]
  | x :: l, n + 1, h, h1, h2 => by
    have hx := h1 0 x (by omega) rfl
    obtain ⟨q1, q2⟩ := Zyq (l := l) (n := n) (by simpa using h) (fun j y hj hy => h1 (j + 1) y (by omega) (by simpa using hy)) (fun y hy => h2 y (by simpa using hy))
    simp [hx, q1, q2]
theorem rwith_s (ps : List Pr) (f g : Bool) (k : Dig) (v : List UInt8) (hb : ps.length ≤ 1000000) (hv : ∀ x ∈ ps, x.2.length ≤ 70368744177664) (hw : v.length ≤ 70368744177664) : PS cfg G 66 [.fz (ps.map pW) 33 f, dW k, .fz (zDq v) 1 g] (psW (withR ps k v)) := by
  have hb2 : ps.length ≤ 1000000000 := by omega
  obtain ⟨rs, hrs⟩ : ∃ rs, rs = yeq ps k := ⟨_, rfl⟩
  have hl : rs.length ≤ 1000000 := by rw [hrs]; exact Nat.le_trans (List.length_filter_le _ _) hb
  have e : (rs.map pW).length = rs.length := List.length_map _
  refine xbq (fn := Try.f66) rfl rfl rfl (Nat.le_of_ble_eq_true rfl) (fun R k0 => ?_)
  refine zcq (zbq (zdq rfl rfl (zaq rfl rfl (zeq ?_))))
  refine zfq (zcq (zbq (zaq rfl rfl (zdq rfl rfl (zsq rfl rfl rfl rfl rfl rfl (yXq (w' := psW rs) (ZCq ps f k hb2 hv) (by rw [hrs])) ?_)))))
  refine zaq rfl rfl (zeq ?_)
  refine zfq (zcq (zbq (zaq rfl rfl (zeq ?_))))
  refine zfq (zcq (zmq ?_))
  refine ySq (α := Nat) (fun n => n ≤ rs.length ∧ ∀ j x, j < n → rs[j]? = some x → yrq x.1 k = true) (fun n => [(8, .int .i64 (n : Int))]) [(2, _), (4, _), (6, _), (7, _)] (fun n => rs.length - n) (0) ⟨rfl, rfl, rfl, rfl, trivial⟩ (⟨Nat.zero_le _, fun j x h => by omega⟩) ⟨rfl, trivial⟩ (fun n hI => ?_)
  obtain ⟨g1, g2⟩ := hI
  have el : ((rs.take n).map pW).length = n := by simp; omega
  have rest : (∀ x, rs[n]? = some x → yrq x.1 k = false) → withR ps k v = rs.take n ++ (k, v) :: rs.drop n := fun h => by
    obtain ⟨q1, q2⟩ := Zyq g1 g2 h
    unfold withR
    rw [← hrs, q1, q2]
  refine zcq (zcq (z0q (zhq rfl rfl (zhq rfl rfl (qXq (w' := .int .i64 (rs.length : Int)) rfl rfl (by rw [← e]; rfl) ?_)))))
  refine fl_dz rfl rfl (fun h1 => ?_) (fun h1 => ?_)
  · have hn : n < rs.length := by omega
    obtain ⟨x, hx⟩ : ∃ x, rs[n]? = some x := ⟨_, List.getElem?_eq_getElem hn⟩
    refine zhq rfl rfl (zhq rfl rfl (zhq rfl rfl (zhq rfl (z8q (i := n) rfl rfl rfl rfl rfl rfl rfl (yKq pW hx)) (zhq rfl rfl (zGq rfl rfl ?_)))))
    refine zGq rfl rfl ?_
    refine qKq rfl rfl rfl rfl rfl rfl (rahead_s _ _) ?_
    refine zhq rfl rfl (z9q ?_)
    refine zfq ?_
    refine zHq rfl (fun h2 => ?_) (fun h2 => ?_)
    · refine ziq (zfq (zmq (zbq (zaq rfl rfl (zAq (n + 1) rfl rfl (by first | rfl | omega) ⟨by omega, by omega⟩ ?_)))))
      refine zaq rfl rfl (zeq ?_)
      refine ztq (by intro i h; cases h) ?_
      exact yjq (n + 1) (⟨hn, fun j y hj hy => by rcases Nat.lt_succ_iff_lt_or_eq.1 hj with q | rfl; exact g2 j y q hy; have := Option.some.inj (hx.symm.trans hy); subst this; exact h2⟩) (by omega) ⟨rfl, trivial⟩ ⟨rfl, rfl, rfl, rfl, trivial⟩ (by repeat (first | exact trivial | refine ⟨by first | rfl | exact zyq (by first | rfl | (simp; done)), ?_⟩)) (by omega) (by repeat (first | exact zMq | refine zPq (by omega) ?_ | refine zNq (by omega) ?_ | refine zOq (by omega) ?_)) rfl
    · have hno : ∀ y, rs[n]? = some y → yrq y.1 k = false := fun y hy => by
        have := Option.some.inj (hx.symm.trans hy); subst this; simpa using h2
      refine ytq ?_
      refine zlq (by intro h; cases h) ?_
      refine ykq (by intro h; cases h) ?_
      refine qpq (zfq (zcq (zbq (zaq rfl rfl (zeq ?_)))))
      refine zfq (zcq (zbq ?_))
      refine uMq (fun _ => ent_up (fr2 := [(2, .fz (zDq v) 1 g), (4, .ptr 0 0), (7, psW rs), (8, .int .i64 (n : Int)), (9, gW 1 33 [])]) ⟨rfl, rfl, rfl, rfl, rfl, trivial⟩) ?_; refine zaq rfl rfl ?_
      refine zaq rfl rfl (zaq rfl rfl (zaq rfl (vZq (ys := (rs.take n).map pW) (l := 0) (h := n) rfl rfl rfl rfl rfl rfl rfl (Nat.zero_le _) (by rw [e]; exact g1) (by rw [List.drop_zero, List.map_take]; rfl) rfl) ?_))
      refine Yuq (b := 1) (xs := []) (news := (rs.take n).map pW) (k := ti88) (H0 := [(0, 26, dW k)]) [_] [(2, .fz (zDq v) 1 g), (4, .ptr 0 0), (7, psW rs), (8, .int .i64 (n : Int))] rfl rfl rfl rfl rfl rfl rfl rfl rfl rfl rfl (by show (0 + ((rs.take n).map pW).length) * 56 ≤ _; omega) (by show 0 + ((rs.take n).map pW).length ≤ _; omega) rfl (by simp) (by omega) (by omega) ⟨rfl, rfl, rfl, rfl, trivial⟩ rfl ⟨zyq (by simp), rfl, zyq (by simp), rfl, trivial⟩ (by simp) ⟨⟨by omega, rfl, zyq (by simp)⟩, trivial⟩ (by simp) ?_
      refine zaq rfl rfl (zeq ?_)
      refine zfq (zcq (z0q (zhq rfl rfl (zGq rfl rfl ?_))))
      refine zhq rfl rfl ?_
      refine qKq rfl rfl rfl rfl rfl rfl (voq _ _ (by first | assumption | omega)) ?_
      refine zhq rfl rfl (zGq rfl rfl ?_)
      refine jjq rfl (jCq rfl rfl (Z1q [_, _] (k := ti88) (news := [pW (k, v)]) rfl rfl rfl rfl rfl (jQq rfl rfl rfl rfl) (by simp) (by show (((rs.take n).map pW).length + 1) * 56 ≤ _; omega) (by show ((rs.take n).map pW).length + 1 ≤ _; omega) rfl (by simp))) (evs_G (by first | rfl | kernel_rfl) (by first | rfl | kernel_rfl)) ?_
      refine zhq rfl rfl (z9q ?_)
      refine zfq (zcq (zbq ?_))
      refine uMq (fun _ => jcq (b := 1) (H0 := [(0, 26, dW k)]) (fr2 := [(4, .ptr 0 0), (7, psW rs), (8, .int .i64 (n : Int))]) 3 9 (by omega) (by omega) (by omega) (by simp) rfl rfl ⟨rfl, rfl, rfl, trivial⟩ ⟨rfl, zyq (by simp), rfl, trivial⟩ rfl (by simp) ⟨⟨by omega, rfl, zyq (by simp)⟩, trivial⟩ (by simp)) ?_; refine zaq rfl rfl ?_
      refine zaq rfl rfl (zaq rfl rfl (zaq rfl (vZq (ys := (rs.drop n).map pW) (l := n) (h := (rs.map pW).length) rfl rfl rfl rfl rfl rfl rfl (by rw [e]; exact g1) (Nat.le_refl _) (by rw [List.take_of_length_le (by simp), List.map_drop]) rfl) ?_))
      refine Yuq (b := 1) (news := (rs.drop n).map pW) (k := ti88) (H0 := [(0, 26, dW k)]) [_] [] rfl rfl rfl rfl rfl rfl rfl rfl rfl rfl rfl (by show (((rs.take n).map pW ++ [pW (k, v)]).length + ((rs.drop n).map pW).length) * 56 ≤ _; simp; omega) (by show ((rs.take n).map pW ++ [pW (k, v)]).length + ((rs.drop n).map pW).length ≤ _; simp; omega) rfl (by simp) (by omega) (by omega) trivial rfl trivial (by simp) ⟨⟨by omega, rfl, zyq (by simp)⟩, trivial⟩ (by simp) ?_
      refine zaq rfl rfl (zeq ?_)
      refine zfq (zjq ?_)
      refine kPq (by first | exact .inr rfl | exact .inl rfl) rfl ?_
      rw [rest (by assumption)]
      have := Zxq (b := 1) (e := 33) (ty := 88) (l := (rs.take n).map pW ++ [pW (k, v)] ++ (rs.drop n).map pW) (H0 := [(0, 26, dW k)]) (by decide) (by simp) (by simp)
      unfold psW
      rw [show (rs.take n ++ (k, v) :: rs.drop n).map pW = (rs.take n).map pW ++ [pW (k, v)] ++ (rs.drop n).map pW by simp]
      exact this
  · have hno : ∀ y, rs[n]? = some y → yrq y.1 k = false := fun y hy => by
      have := (List.getElem?_eq_some_iff.1 hy).1; omega
    refine zhq rfl rfl (zSq rfl (zSq rfl (zSq rfl (zSq rfl (zSq rfl (zSq rfl (zSq rfl (zhq rfl rfl (z9q ?_)))))))))
    refine zfq (zCq rfl (ytq ?_))
    refine zlq (by intro h; cases h) ?_
    refine ykq (by intro h; cases h) ?_
    refine qpq (zfq (zcq (zbq (zaq rfl rfl (zeq ?_)))))
    refine zfq (zcq (zbq ?_))
    refine uMq (fun _ => ent_up (fr2 := [(2, .fz (zDq v) 1 g), (4, .ptr 0 0), (7, psW rs), (8, .int .i64 (n : Int)), (9, gW 1 33 [])]) ⟨rfl, rfl, rfl, rfl, rfl, trivial⟩) ?_; refine zaq rfl rfl ?_
    refine zaq rfl rfl (zaq rfl rfl (zaq rfl (vZq (ys := (rs.take n).map pW) (l := 0) (h := n) rfl rfl rfl rfl rfl rfl rfl (Nat.zero_le _) (by rw [e]; exact g1) (by rw [List.drop_zero, List.map_take]; rfl) rfl) ?_))
    refine Yuq (b := 1) (xs := []) (news := (rs.take n).map pW) (k := ti88) (H0 := [(0, 26, dW k)]) [_] [(2, .fz (zDq v) 1 g), (4, .ptr 0 0), (7, psW rs), (8, .int .i64 (n : Int))] rfl rfl rfl rfl rfl rfl rfl rfl rfl rfl rfl (by show (0 + ((rs.take n).map pW).length) * 56 ≤ _; omega) (by show 0 + ((rs.take n).map pW).length ≤ _; omega) rfl (by simp) (by omega) (by omega) ⟨rfl, rfl, rfl, rfl, trivial⟩ rfl ⟨zyq (by simp), rfl, zyq (by simp), rfl, trivial⟩ (by simp) ⟨⟨by omega, rfl, zyq (by simp)⟩, trivial⟩ (by simp) ?_
    refine zaq rfl rfl (zeq ?_)
    refine zfq (zcq (z0q (zhq rfl rfl (zGq rfl rfl ?_))))
    refine zhq rfl rfl ?_
    refine qKq rfl rfl rfl rfl rfl rfl (voq _ _ (by first | assumption | omega)) ?_
    refine zhq rfl rfl (zGq rfl rfl ?_)
    refine jjq rfl (jCq rfl rfl (Z1q [_, _] (k := ti88) (news := [pW (k, v)]) rfl rfl rfl rfl rfl (jQq rfl rfl rfl rfl) (by simp) (by show (((rs.take n).map pW).length + 1) * 56 ≤ _; omega) (by show ((rs.take n).map pW).length + 1 ≤ _; omega) rfl (by simp))) (evs_G (by first | rfl | kernel_rfl) (by first | rfl | kernel_rfl)) ?_
    refine zhq rfl rfl (z9q ?_)
    refine zfq (zcq (zbq ?_))
    refine uMq (fun _ => jcq (b := 1) (H0 := [(0, 26, dW k)]) (fr2 := [(4, .ptr 0 0), (7, psW rs), (8, .int .i64 (n : Int))]) 3 9 (by omega) (by omega) (by omega) (by simp) rfl rfl ⟨rfl, rfl, rfl, trivial⟩ ⟨rfl, zyq (by simp), rfl, trivial⟩ rfl (by simp) ⟨⟨by omega, rfl, zyq (by simp)⟩, trivial⟩ (by simp)) ?_; refine zaq rfl rfl ?_
    refine zaq rfl rfl (zaq rfl rfl (zaq rfl (vZq (ys := (rs.drop n).map pW) (l := n) (h := (rs.map pW).length) rfl rfl rfl rfl rfl rfl rfl (by rw [e]; exact g1) (Nat.le_refl _) (by rw [List.take_of_length_le (by simp), List.map_drop]) rfl) ?_))
    refine Yuq (b := 1) (news := (rs.drop n).map pW) (k := ti88) (H0 := [(0, 26, dW k)]) [_] [] rfl rfl rfl rfl rfl rfl rfl rfl rfl rfl rfl (by show (((rs.take n).map pW ++ [pW (k, v)]).length + ((rs.drop n).map pW).length) * 56 ≤ _; simp; omega) (by show ((rs.take n).map pW ++ [pW (k, v)]).length + ((rs.drop n).map pW).length ≤ _; simp; omega) rfl (by simp) (by omega) (by omega) trivial rfl trivial (by simp) ⟨⟨by omega, rfl, zyq (by simp)⟩, trivial⟩ (by simp) ?_
    refine zaq rfl rfl (zeq ?_)
    refine zfq (zjq ?_)
    refine kPq (by first | exact .inr rfl | exact .inl rfl) rfl ?_
    rw [rest (by assumption)]
    have := Zxq (b := 1) (e := 33) (ty := 88) (l := (rs.take n).map pW ++ [pW (k, v)] ++ (rs.drop n).map pW) (H0 := [(0, 26, dW k)]) (by decide) (by simp) (by simp)
    unfold psW
    rw [show (rs.take n ++ (k, v) :: rs.drop n).map pW = (rs.take n).map pW ++ [pW (k, v)] ++ (rs.drop n).map pW by simp]
    exact this
theorem withR_eq {l : List Pr} (h : Srt l) (k : Dig) (v : List UInt8) : withR l k v = kAq l k v := by
  have key : ∀ {l : List Pr}, Srt l → (yeq l k).takeWhile (fun p => yrq p.1 k) = l.filter (fun p => yrq p.1 k) ∧ (yeq l k).dropWhile (fun p => yrq p.1 k) = l.filter (fun p => yrq k p.1) := by
    intro l
    induction l with
    | nil => intro _; exact ⟨rfl, rfl⟩
    | cons x l ih =>
      intro h
      obtain ⟨h1, h2⟩ := List.pairwise_cons.1 h
      obtain ⟨q1, q2⟩ := ih h2
      by_cases e : x.1 = k
      · have e1 : yrq x.1 k = false := by rw [e]; exact j1q k
        have e2 : yrq k x.1 = false := by rw [e]; exact j1q k
        have hno : ∀ y ∈ l, yrq y.1 k = false := fun y hy => qHq (by rw [← e]; exact h1 y hy)
        have ew : yeq (x :: l) k = yeq l k := by simp [yeq, e]
        rw [ew, q1, q2]
        simp [e1, e2]
      · have ew : yeq (x :: l) k = x :: yeq l k := by simp [yeq, e]
        rw [ew]
        cases ha : yrq x.1 k with
        | true =>
          have hb := qHq ha
          simp [ha, hb, q1, q2]
        | false =>
          have hb : yrq k x.1 = true := (Ziq e).resolve_left (by rw [ha]; exact Bool.false_ne_true)
          have hno : ∀ y ∈ l, yrq y.1 k = false := fun y hy => qHq (xEq hb (h1 y hy))
          have hyes : ∀ y ∈ l, yrq k y.1 = true := fun y hy => xEq hb (h1 y hy)
          have hw : yeq l k = l := jkq fun p hp q => by
            have := hyes p hp
            rw [q, j1q] at this; cases this
          simp only [List.takeWhile_cons, List.dropWhile_cons, List.filter_cons, ha, hb, hw, if_true, if_false]
          refine ⟨(vQq fun y hy => hno y hy).symm, ?_⟩
          simp only [Bool.false_eq_true, if_false]
          rw [YJq fun y hy => hyes y hy]
  obtain ⟨q1, q2⟩ := key h
  unfold withR kAq
  rw [q1, q2]
theorem rpsame_s (a b : List Pr) (f g : Bool) (hb : a.length ≤ 1000000000) : PS cfg G 20 [.fz (a.map pW) 33 f, .fz (b.map pW) 33 g] (.bool (decide (a = b))) := by
  have ea : (a.map pW).length = a.length := List.length_map _
  have eb : (b.map pW).length = b.length := List.length_map _
  refine ynq (fn := Try.f20) rfl rfl rfl (Nat.le_of_ble_eq_true rfl) (fun R k0 => ?_)
  refine zcq (zbq (zaq rfl rfl (zeq ?_)))
  refine zfq (zcq (zcq (zbq (zaq rfl rfl (zXq (w' := .int .i64 (a.length : Int)) rfl rfl (by rw [← ea]; rfl) ?_)))))
  refine zaq rfl rfl (zXq (w' := .int .i64 (b.length : Int)) rfl rfl (by rw [← eb]; rfl) ?_)
  refine zEq rfl rfl ?_
  refine zeq ?_
  refine zfq ?_
  refine zHq rfl (fun h1 => ?_) (fun h1 => ?_)
  · refine zcq (zbq (zaq rfl rfl (zeq ?_)))
    refine zfq (zjq ?_)
    refine zlq (by intro h; cases h) ?_
    refine znq (.inr rfl) rfl ?_
    rw [decide_eq_false]
    rintro rfl
    exact h1 rfl
  · have hl : a.length = b.length := by omega
    refine ziq (zfq (zcq (zcq (zbq (zaq rfl rfl (zeq ?_))))))
    refine zfq (zmq ?_)
    refine ySq (α := Nat) (fun i => i ≤ a.length ∧ a.take i = b.take i) (fun i => [(5, .int .i64 (i : Int))]) [(0, _), (1, _), (4, _)] (fun i => a.length - i) (0) ⟨rfl, rfl, rfl, trivial⟩ (⟨Nat.zero_le _, rfl⟩) ⟨rfl, trivial⟩ (fun i hI => ?_)
    obtain ⟨g1, g2⟩ := hI
    refine zcq (zcq (zbq (zaq rfl rfl (zaq rfl rfl (zXq (w' := .int .i64 (a.length : Int)) rfl rfl (by rw [← ea]; rfl) ?_)))))
    refine zEq rfl rfl ?_
    refine zeq ?_
    refine zfq ?_
    refine zHq rfl (fun h2 => ?_) (fun h2 => ?_)
    · have hi : i < a.length := by omega
      obtain ⟨x, hx⟩ : ∃ x, a[i]? = some x := ⟨_, List.getElem?_eq_getElem hi⟩
      obtain ⟨y, hy⟩ : ∃ y, b[i]? = some y := ⟨_, List.getElem?_eq_getElem (by omega)⟩
      have no : x ≠ y → decide (a = b) = false := fun h => decide_eq_false fun q => h (by subst q; exact Option.some.inj (hx.symm.trans hy))
      refine ziq (zfq (zcq (zmq (zcq (z0q (zhq rfl rfl (zhq rfl rfl (zhq rfl (z8q (i := i) rfl rfl rfl rfl rfl rfl rfl (yKq pW hx)) (zhq rfl rfl (zGq rfl rfl ?_))))))))))
      refine zhq rfl rfl (zhq rfl rfl (zhq rfl (z8q (i := i) rfl rfl rfl rfl rfl rfl rfl (yKq pW hy)) (zhq rfl rfl (zGq rfl rfl ?_))))
      refine fl_dec rfl (uCq rfl rfl rfl rfl (qPq rfl rfl rfl rfl rfl rfl _ _ 250)) (uoq yQq) (fun h3 => ?_) (fun h3 => ?_)
      · refine zhq rfl rfl (zSq rfl (zSq rfl (zSq rfl (zSq rfl (zSq rfl (zSq rfl (zSq rfl (zSq rfl (zSq rfl (zSq rfl (zSq rfl (zSq rfl (zhq rfl rfl (z9q ?_))))))))))))))
        refine zfq (zQq rfl (zcq (zbq (zaq rfl rfl (zeq ?_)))))
        refine zfq (zjq ?_)
        refine ztq (by intro i h; cases h) ?_
        refine zlq (by intro h; cases h) ?_
        refine ykq (by intro h; cases h) ?_
        refine ztq (by intro i h; cases h) ?_
        refine zlq (by intro h; cases h) ?_
        exact znq (.inr rfl) rfl (by rw [no fun q => h3 (by rw [q])])
      · have hk : x.1 = y.1 := by simpa using h3
        refine zhq rfl rfl (zhq rfl rfl (zhq rfl rfl (zhq rfl (z8q (i := i) rfl rfl rfl rfl rfl rfl rfl (yKq pW hx)) (zhq rfl rfl (zGq rfl rfl ?_)))))
        refine zhq rfl rfl (zhq rfl rfl (zhq rfl (z8q (i := i) rfl rfl rfl rfl rfl rfl rfl (yKq pW hy)) (zhq rfl rfl (zGq rfl rfl ?_))))
        refine qKq rfl rfl rfl rfl rfl rfl (same_s _ _ _ _) ?_
        refine zhq rfl rfl (zhq rfl rfl (z9q ?_))
        refine zfq ?_
        refine zHq rfl (fun h4 => ?_) (fun h4 => ?_)
        · refine zcq (zbq (zaq rfl rfl (zeq ?_)))
          refine zfq (zjq ?_)
          refine ztq (by intro i h; cases h) ?_
          refine zlq (by intro h; cases h) ?_
          refine ykq (by intro h; cases h) ?_
          refine ztq (by intro i h; cases h) ?_
          refine zlq (by intro h; cases h) ?_
          exact znq (.inr rfl) rfl (by rw [no fun q => by rw [q] at h4; simp at h4])
        · have hv : x.2 = y.2 := by simpa using h4
          have hxy : x = y := Prod.ext hk hv
          refine ziq (ztq (by intro i h; cases h) ?_)
          refine zfq (zbq (zaq rfl rfl (zAq (i + 1) rfl rfl (by first | rfl | omega) ⟨by omega, by omega⟩ ?_)))
          refine zaq rfl rfl (zeq ?_)
          exact yjq (i + 1) (⟨hi, by rw [List.take_add_one, List.take_add_one, g2, hx, hy, hxy]⟩) (by omega) ⟨rfl, trivial⟩ ⟨rfl, rfl, rfl, trivial⟩ (by repeat (first | exact trivial | refine ⟨by first | rfl | exact zyq (by first | rfl | (simp; done)), ?_⟩)) (by omega) (by repeat (first | exact zMq | refine zPq (by omega) ?_ | refine zNq (by omega) ?_ | refine zOq (by omega) ?_)) rfl
    · refine ytq ?_
      refine zlq (by intro h; cases h) ?_
      refine ykq (by intro h; cases h) ?_
      refine qpq (zfq (zcq (zbq (zaq rfl rfl (zeq ?_)))))
      refine zfq (zjq ?_)
      refine znq (.inr rfl) rfl ?_
      rw [decide_eq_true]
      have := g2
      rw [List.take_of_length_le (by omega), List.take_of_length_le (by omega)] at this
      exact this
end Go.Proofs.Ytgeelfdgnehdnaa
namespace Go.Proofs.Ytgeelfdgnehdnaa
open Go.RowKit
set_option linter.unusedSimpArgs false
set_option linter.unusedVariables false
attribute [local irreducible] CoW OpW FlW Step Spec
variable {G : Nat → Option W}
theorem mayp_val (k : Dig) (v : List UInt8) : MayP [(k, v)] ↔ valB v = true := by
  constructor
  · intro h
    exact (h.2 0 (by simp) _ rfl).1
  · intro h
    refine ⟨by simp, fun i hi x hx => ?_⟩
    obtain rfl : i = 0 := by simpa using hi
    cases hx
    exact ⟨h, fun y h0 => by omega⟩
theorem rone_s (x : Node) (n : Nat) (hn : n ≤ 4611686018427387903) : PS cfg G 44 [nW x, .int .i64 (n : Int)] (.bool (decide (oneB x n))) := by
  have e := yqq x.val
  have yes : ∀ {b : Bool}, x.leaf = true → b = (valB x.val && decide (x.left = 0) && decide (x.right = 0)) → W.bool b = W.bool (decide (oneB x n)) := fun {b} h1 hb => by
    rw [hb]
    congr 1
    rw [Bool.eq_iff_iff]
    simp only [Bool.and_eq_true, decide_eq_true_eq, oneB, if_pos h1, mayp_val]
    exact ⟨fun ⟨⟨a, b⟩, c⟩ => ⟨b, c, a⟩, fun ⟨b, c, a⟩ => ⟨⟨a, b⟩, c⟩⟩
  have no : ¬ x.leaf = true → ¬ ((0 ≤ x.left ∧ x.left ≤ n) ∧ (0 ≤ x.right ∧ x.right ≤ n) ∧ 0 < x.left + x.right) → W.bool false = W.bool (decide (oneB x n)) := fun h1 h => by
    rw [decide_eq_false]
    rw [oneB, if_neg h1]
    exact fun q => h ⟨q.1, q.2.1, q.2.2.2.2⟩
  have fork : ∀ {b : Bool}, ¬ x.leaf = true → 0 ≤ x.left → x.left ≤ n → 0 ≤ x.right → x.right ≤ n → 0 < x.left + x.right → b = (decide (x.key = qSq) && decide (x.val = [])) → W.bool b = W.bool (decide (oneB x n)) := fun {b} h1 q1 q2 q3 q4 q5 hb => by
    rw [hb]
    congr 1
    rw [Bool.eq_iff_iff]
    simp only [Bool.and_eq_true, decide_eq_true_eq, oneB, if_neg h1]
    exact ⟨fun ⟨a, c⟩ => ⟨⟨q1, q2⟩, ⟨q3, q4⟩, a, c, q5⟩, fun h => ⟨h.2.2.1, h.2.2.2.1⟩⟩
  refine ynq (fn := Try.f44) rfl rfl rfl (Nat.le_of_ble_eq_true rfl) (fun R k0 => ?_)
  refine zcq (zbq (zdq rfl rfl (zaq rfl rfl (zeq ?_))))
  refine zfq (zcq (zcq (zbq (zaq rfl rfl (zdq rfl rfl (zeq ?_))))))
  refine zfq ?_
  refine zHq rfl (fun h1 => ?_) (fun h1 => ?_)
  · refine zcq (zbq (zaq rfl rfl (zdq rfl rfl (zsq rfl rfl rfl rfl rfl rfl (rvalue_s _ _) ?_))))
    refine k8q (fun h2 => ?_) (fun h2 => ?_)
    · refine zaq rfl rfl (zaq rfl rfl (zdq rfl rfl ?_))
      refine yYq rfl rfl (fun h3 => ?_) (fun h3 => ?_)
      · refine zaq rfl rfl (zaq rfl rfl (zaq rfl rfl (zdq rfl rfl (zEq rfl rfl ?_))))
        refine zaq rfl rfl (zaq rfl rfl (zeq ?_))
        refine zfq (zjq ?_)
        refine zlq (by intro h; cases h) ?_
        exact znq (.inr rfl) rfl (by first | exact yes (by assumption) (by simp_all) | exact no (by assumption) (by omega))
      · refine zaq rfl rfl (zaq rfl rfl (zgq rfl (zgq rfl (zgq rfl (zaq rfl rfl (zaq rfl rfl (zeq ?_)))))))
        refine zfq (zjq ?_)
        refine zlq (by intro h; cases h) ?_
        exact znq (.inr rfl) rfl (by first | exact yes (by assumption) (by simp_all) | exact no (by assumption) (by omega))
    · refine zaq rfl rfl (zgq rfl (zgq rfl (zgq rfl (zaq rfl rfl (zaq rfl rfl (zgq rfl (zgq rfl (zgq rfl (zaq rfl rfl (zaq rfl rfl (zeq ?_)))))))))))
      refine zfq (zjq ?_)
      refine zlq (by intro h; cases h) ?_
      exact znq (.inr rfl) rfl (by first | exact yes (by assumption) (by simp_all) | exact no (by assumption) (by omega))
  · refine ziq (zfq (zcq (zcq (zbq (zaq rfl rfl (zdq rfl rfl ?_))))))
    refine yYq rfl rfl (fun h2 => ?_) (fun h2 => ?_)
    · refine zaq rfl rfl (zgq rfl (zgq rfl (zgq rfl (zgq rfl (zaq rfl rfl (zaq rfl rfl (zgq rfl (zgq rfl (zgq rfl (zaq rfl rfl (zaq rfl rfl (zgq rfl (zgq rfl (zgq rfl (zgq rfl (zaq rfl rfl (zaq rfl rfl (zgq rfl (zgq rfl (zgq rfl (zgq rfl (zgq rfl (zgq rfl ?_)))))))))))))))))))))))
      refine zgq rfl (zgq rfl (zaq rfl rfl (zeq ?_)))
      refine zfq (zQq rfl (zcq (zbq (zaq rfl rfl (zeq ?_)))))
      refine zfq (zjq ?_)
      refine zlq (by intro h; cases h) ?_
      exact znq (.inr rfl) rfl (by first | exact yes (by assumption) (by simp_all) | exact no (by assumption) (by omega))
    · refine zaq rfl rfl (zaq rfl rfl (zdq rfl rfl (zaq rfl rfl ?_)))
      refine yYq rfl rfl (fun h3 => ?_) (fun h3 => ?_)
      · refine zaq rfl rfl (zaq rfl rfl (zgq rfl (zgq rfl (zgq rfl (zaq rfl rfl (zaq rfl rfl (zgq rfl (zgq rfl (zgq rfl (zgq rfl (zaq rfl rfl (zaq rfl rfl (zgq rfl (zgq rfl (zgq rfl (zgq rfl (zgq rfl (zgq rfl (zgq rfl (zgq rfl (zaq rfl rfl (zeq ?_))))))))))))))))))))))
        refine zfq (zQq rfl (zcq (zbq (zaq rfl rfl (zeq ?_)))))
        refine zfq (zjq ?_)
        refine zlq (by intro h; cases h) ?_
        exact znq (.inr rfl) rfl (by first | exact yes (by assumption) (by simp_all) | exact no (by assumption) (by omega))
      · refine zaq rfl rfl (zaq rfl rfl (zaq rfl rfl (zdq rfl rfl ?_)))
        refine yYq rfl rfl (fun h4 => ?_) (fun h4 => ?_)
        · refine zaq rfl rfl (zaq rfl rfl (zgq rfl (zgq rfl (zgq rfl (zgq rfl (zaq rfl rfl (zaq rfl rfl (zgq rfl (zgq rfl (zgq rfl (zgq rfl (zgq rfl (zgq rfl (zgq rfl (zgq rfl (zaq rfl rfl (zeq ?_)))))))))))))))))
          refine zfq (zQq rfl (zcq (zbq (zaq rfl rfl (zeq ?_)))))
          refine zfq (zjq ?_)
          refine zlq (by intro h; cases h) ?_
          exact znq (.inr rfl) rfl (by first | exact yes (by assumption) (by simp_all) | exact no (by assumption) (by omega))
        · refine zaq rfl rfl (zaq rfl rfl (zaq rfl rfl (zdq rfl rfl (zaq rfl rfl ?_))))
          refine yYq rfl rfl (fun h5 => ?_) (fun h5 => ?_)
          · refine zaq rfl rfl (zaq rfl rfl (zgq rfl (zgq rfl (zgq rfl (zgq rfl (zgq rfl (zgq rfl (zgq rfl (zgq rfl (zaq rfl rfl (zeq ?_)))))))))))
            refine zfq (zQq rfl (zcq (zbq (zaq rfl rfl (zeq ?_)))))
            refine zfq (zjq ?_)
            refine zlq (by intro h; cases h) ?_
            exact znq (.inr rfl) rfl (by first | exact yes (by assumption) (by simp_all) | exact no (by assumption) (by omega))
          · refine zaq rfl rfl (zaq rfl rfl (zaq rfl rfl (zdq rfl rfl ?_)))
            refine yYq rfl rfl (fun h6 => ?_) (fun h6 => ?_)
            · refine zaq rfl rfl (zaq rfl rfl (zdq rfl rfl (zEq rfl rfl ?_)))
              refine zaq rfl rfl (zaq rfl rfl (zeq ?_))
              refine zfq ?_
              refine zHq rfl (fun h7 => ?_) (fun h7 => ?_)
              · refine zcq (zbq (zaq rfl rfl (zeq ?_)))
                refine zfq (zjq ?_)
                refine zlq (by intro h; cases h) ?_
                exact znq (.inr rfl) rfl (by first | exact yes (by assumption) (by simp_all) | exact no (by assumption) (by omega))
              · have h2 : ¬ x.left < 0 := h2
                have h3 : ¬ (n : Int) < x.left := h3
                have h4 : ¬ x.right < 0 := h4
                have h5 : ¬ (n : Int) < x.right := h5
                refine ziq (zfq (zcq (zbq (zaq rfl rfl (zdq rfl rfl (zXq rfl rfl uyq ?_))))))
                refine op_dec rfl (qbq rfl rfl rfl rfl (qPq rfl rfl rfl rfl rfl rfl _ _ 250)) yQq (fun h8 => ?_) (fun h8 => ?_)
                · refine zaq rfl rfl (zaq rfl rfl (zdq rfl rfl (zXq (w' := .int .i64 (x.val.length : Int)) rfl rfl (by rw [← e]; rfl) ?_)))
                  refine zEq rfl rfl ?_
                  refine zaq rfl rfl (zaq rfl rfl (zeq ?_))
                  refine zfq (zjq ?_)
                  refine znq (.inr rfl) rfl (fork h1 (by omega) (by omega) (by omega) (by omega) (by omega) ?_)
                  rw [decide_eq_true (by assumption : x.key = qSq), Bool.true_and]
                  refine decide_eq_decide.2 ⟨fun q => List.eq_nil_of_length_eq_zero (by omega), fun q => by rw [q]; rfl⟩
                · refine zaq rfl rfl (zgq rfl (zgq rfl (zgq rfl (zgq rfl (zaq rfl rfl (zaq rfl rfl (zeq ?_)))))))
                  refine zfq (zjq ?_)
                  refine znq (.inr rfl) rfl (fork h1 (by omega) (by omega) (by omega) (by omega) (by omega) ?_)
                  rw [decide_eq_false (by assumption : ¬ x.key = qSq), Bool.false_and]
            · have h2 : ¬ x.left < 0 := h2
              have h3 : ¬ (n : Int) < x.left := h3
              have h4 : ¬ x.right < 0 := h4
              have h5 : ¬ (n : Int) < x.right := h5
              refine zaq rfl rfl (zgq rfl (zgq rfl (zgq rfl (zaq rfl rfl (zaq rfl rfl (zeq ?_))))))
              refine zfq (zCq rfl (ziq (zfq (zcq (zbq (zaq rfl rfl (zdq rfl rfl (zXq rfl rfl uyq ?_))))))))
              refine op_dec rfl (qbq rfl rfl rfl rfl (qPq rfl rfl rfl rfl rfl rfl _ _ 250)) yQq (fun h7 => ?_) (fun h7 => ?_)
              · refine zaq rfl rfl (zaq rfl rfl (zdq rfl rfl (zXq (w' := .int .i64 (x.val.length : Int)) rfl rfl (by rw [← e]; rfl) ?_)))
                refine zEq rfl rfl ?_
                refine zaq rfl rfl (zaq rfl rfl (zeq ?_))
                refine zfq (zjq ?_)
                refine znq (.inr rfl) rfl (fork h1 (by omega) (by omega) (by omega) (by omega) (by omega) ?_)
                rw [decide_eq_true (by assumption : x.key = qSq), Bool.true_and]
                refine decide_eq_decide.2 ⟨fun q => List.eq_nil_of_length_eq_zero (by omega), fun q => by rw [q]; rfl⟩
              · refine zaq rfl rfl (zgq rfl (zgq rfl (zgq rfl (zgq rfl (zaq rfl rfl (zaq rfl rfl (zeq ?_)))))))
                refine zfq (zjq ?_)
                refine znq (.inr rfl) rfl (fork h1 (by omega) (by omega) (by omega) (by omega) (by omega) ?_)
                rw [decide_eq_false (by assumption : ¬ x.key = qSq), Bool.false_and]
def cntR (t : T) (d : Nat) (b : Dig) : Int := if t.ok d b = true then (match t with | .nil => 0 | .leaf _ _ => 1 | .fork _ _ => 2) else -1
theorem cntR_lt (t : T) (d : Nat) (b : Dig) : cntR t d b < 0 ↔ ¬ t.ok d b = true := by
  unfold cntR
  split
  · rename_i h
    cases t <;> simp [h]
  · rename_i h; simp [h]
theorem cntR_ge (t : T) (d : Nat) (b : Dig) : 0 ≤ cntR t d b ↔ t.ok d b = true := by
  have := cntR_lt t d b
  constructor
  · intro h
    refine Classical.byContradiction fun q => ?_
    have := this.2 q
    omega
  · intro h
    refine Int.not_lt.1 fun q => this.1 q h
theorem cntR_fork {l r : T} {d : Nat} {b : Dig} (hd : d < 256) (h1 : ¬ cntR l (d + 1) b < 0) (h2 : ¬ cntR r (d + 1) (qgq b d) < 0) : cntR (.fork l r) d b = if cntR l (d + 1) b + cntR r (d + 1) (qgq b d) < 2 then -1 else 2 := by
  have e1 : l.ok (d + 1) b = true := (cntR_ge l _ _).1 (by omega)
  have e2 : r.ok (d + 1) (qgq b d) = true := (cntR_ge r _ _).1 (by omega)
  have e : (T.fork l r).ok d b = T.two l r := by simp only [T.ok]; rw [decide_eq_true hd, e1, e2]; rfl
  unfold cntR
  rw [e, e1, e2]
  cases l <;> cases r <;> simp [T.two, T.isFork, T.non]
theorem cntR_le (t : T) (d : Nat) (b : Dig) : cntR t d b ≤ 2 := by
  unfold cntR
  split
  · cases t <;> simp
  · omega
theorem cntR_no {l r : T} {d : Nat} {b : Dig} (h : ¬ (T.fork l r).ok d b = true) : cntR (.fork l r) d b = -1 := by unfold cntR; rw [if_neg h]
theorem rright_s (t0 : Tree) (hb : t0.nodes.length ≤ 4611686018427387903) : ∀ (t : T) (n d : Nat) (b : Dig), Rep t0.nodes n t → d ≤ 256 → PS cfg G 45 [tW t0, .int .i64 (n : Int), .int .i64 (d : Int), dW b] (.int .i64 (cntR t d b)) := by
  intro t
  induction t with
  | nil =>
    intro n d b hr hd
    obtain rfl : n = 0 := by cases hr; rfl
    refine ynq (fn := Try.f45) rfl rfl rfl (Nat.le_of_ble_eq_true rfl) (fun R k0 => ?_)
    refine zcq (zbq (zdq rfl rfl (zdq rfl rfl (zaq rfl rfl (zeq ?_)))))
    refine zfq (zcq (zcq (zbq (zaq rfl rfl (zEq rfl rfl ?_)))))
    refine zeq ?_
    refine zfq ?_
    refine zHq rfl (fun h1 => ?_) (fun h1 => ?_)
    · refine zcq (zbq (zaq rfl rfl (zeq ?_)))
      refine zfq (zjq ?_)
      refine zlq (by intro h; cases h) ?_
      exact znq (.inr rfl) rfl rfl
    · exfalso; omega
  | leaf k v =>
    intro n d b hr hd
    have hle := hr.le
    cases hr with
    | leaf h =>
    rename_i n l r
    refine ynq (fn := Try.f45) rfl rfl rfl (Nat.le_of_ble_eq_true rfl) (fun R k0 => ?_)
    refine zcq (zbq (zdq rfl rfl (zdq rfl rfl (zaq rfl rfl (zeq ?_)))))
    refine zfq (zcq (zcq (zbq (zaq rfl rfl (zEq rfl rfl ?_)))))
    refine zeq ?_
    refine zfq ?_
    refine zHq rfl (fun h1 => ?_) (fun h1 => ?_)
    · exfalso; omega
    · refine ziq (zfq (zcq (zbq (zaq rfl rfl (zdq rfl rfl (zaq rfl rfl (zAq (n) rfl rfl (by first | rfl | omega) ⟨by omega, by omega⟩ ?_)))))))
      refine zaq rfl (z8q (i := n) rfl rfl rfl rfl rfl rfl rfl (yKq nW h)) (zdq rfl rfl (zdq rfl rfl (zdq rfl rfl (zeq ?_))))
      refine zfq (zcq (zcq (zbq (zaq rfl rfl (zdq rfl rfl (zeq ?_))))))
      refine zfq (zQq rfl (zcq (zcq (zbq (zaq rfl rfl (zdq rfl rfl (zdq rfl rfl (zsq rfl rfl rfl rfl rfl rfl (rshared_s _ _) ?_))))))))
      refine zaq rfl rfl (zEq rfl rfl ?_)
      refine zeq ?_
      refine zfq ?_
      refine zHq rfl (fun h2 => ?_) (fun h2 => ?_)
      · refine zcq (zbq (zaq rfl rfl (zeq ?_)))
        refine zfq (zjq ?_)
        refine zlq (by intro h; cases h) ?_
        refine zlq (by intro h; cases h) ?_
        refine znq (.inr rfl) rfl ?_
        unfold cntR
        rw [if_neg]
        simp only [T.ok, decide_eq_true_eq]
        have h2 : ((yfq k b : Nat) : Int) < d := h2
        omega
      · refine ziq (zfq (zcq (zbq (zaq rfl rfl (zeq ?_)))))
        refine zfq (zjq ?_)
        refine zlq (by intro h; cases h) ?_
        refine znq (.inr rfl) rfl ?_
        unfold cntR
        rw [if_pos]
        simp only [T.ok, decide_eq_true_eq]
        have h2 : ¬ ((yfq k b : Nat) : Int) < d := h2
        omega
  | fork tl tr ihL ihR =>
    intro n d b hr hd
    have hle := hr.le
    cases hr with
    | fork h hl hr hL hR =>
    rename_i n l r k v
    refine ynq (fn := Try.f45) rfl rfl rfl (Nat.le_of_ble_eq_true rfl) (fun R k0 => ?_)
    refine zcq (zbq (zdq rfl rfl (zdq rfl rfl (zaq rfl rfl (zeq ?_)))))
    refine zfq (zcq (zcq (zbq (zaq rfl rfl (zEq rfl rfl ?_)))))
    refine zeq ?_
    refine zfq ?_
    refine zHq rfl (fun h1 => ?_) (fun h1 => ?_)
    · exfalso; omega
    · refine ziq (zfq (zcq (zbq (zaq rfl rfl (zdq rfl rfl (zaq rfl rfl (zAq (n) rfl rfl (by first | rfl | omega) ⟨by omega, by omega⟩ ?_)))))))
      refine zaq rfl (z8q (i := n) rfl rfl rfl rfl rfl rfl rfl (yKq nW h)) (zdq rfl rfl (zdq rfl rfl (zdq rfl rfl (zeq ?_))))
      refine zfq (zcq (zcq (zbq (zaq rfl rfl (zdq rfl rfl (zeq ?_))))))
      refine zfq (zCq rfl (ziq (zfq (zcq (zcq (zbq (zaq rfl rfl (zEq rfl rfl ?_))))))))
      refine zeq ?_
      refine zfq ?_
      refine zHq rfl (fun h2 => ?_) (fun h2 => ?_)
      · refine zcq (zbq (zaq rfl rfl (zeq ?_)))
        refine zfq (zjq ?_)
        refine zlq (by intro h; cases h) ?_
        refine znq (.inr rfl) rfl ?_
        rw [cntR_no fun q => by have := (ok_fork.1 q).1; omega]
      · have hd' : d < 256 := by omega
        refine ziq (zfq (zcq (zbq (zdq rfl rfl (zaq rfl rfl (zsq rfl rfl rfl rfl rfl rfl (rturn_in _ _ (by omega)) ?_))))))
        refine zaq rfl rfl (zaq rfl rfl (zaq rfl rfl (zdq rfl rfl (zdq rfl rfl (zaq rfl rfl (zeq ?_))))))
        refine zfq (zcq (zbq (zdq rfl rfl (zaq rfl rfl (zdq rfl rfl (zaq rfl rfl (zAq (d + 1) rfl rfl (by first | rfl | omega) ⟨by omega, by omega⟩ ?_)))))))
        refine zdq rfl rfl (zsq rfl rfl rfl rfl rfl rfl (ihL l (d + 1) b hL (by omega)) ?_)
        refine zaq rfl rfl (zeq ?_)
        refine zfq (zcq (zcq (zbq (zaq rfl rfl (zEq rfl rfl ?_)))))
        refine zeq ?_
        refine zfq ?_
        refine zHq rfl (fun h3 => ?_) (fun h3 => ?_)
        · refine zcq (zbq (zaq rfl rfl (zeq ?_)))
          refine zfq (zjq ?_)
          refine zlq (by intro h; cases h) ?_
          refine znq (.inr rfl) rfl ?_
          rw [cntR_no fun q => (cntR_lt tl _ _).1 (by assumption) (ok_fork.1 q).2.1]
        · refine ziq (zfq (zcq (zbq (zdq rfl rfl (zaq rfl rfl (zdq rfl rfl (zaq rfl rfl (zAq (d + 1) rfl rfl (by first | rfl | omega) ⟨by omega, by omega⟩ ?_))))))))
          refine zdq rfl rfl (zsq rfl rfl rfl rfl rfl rfl (ihR r (d + 1) (qgq b d) hR (by omega)) ?_)
          refine zaq rfl rfl (zeq ?_)
          refine zfq (zcq (zcq (zbq (zaq rfl rfl ?_))))
          refine yYq rfl rfl (fun h4 => ?_) (fun h4 => ?_)
          · refine zaq rfl rfl (zgq rfl (zgq rfl (zgq rfl (zgq rfl (zaq rfl rfl (zeq ?_))))))
            refine zfq (zQq rfl (zcq (zbq (zaq rfl rfl (zeq ?_)))))
            refine zfq (zjq ?_)
            refine zlq (by intro h; cases h) ?_
            refine znq (.inr rfl) rfl ?_
            rw [cntR_no fun q => (cntR_lt tr _ _).1 (by assumption) (ok_fork.1 q).2.2.1]
          · have hc := cntR_fork (l := tl) (r := tr) hd' h3 h4
            have b1 := cntR_le tl (d + 1) b
            have b2 := cntR_le tr (d + 1) (qgq b d)
            refine zaq rfl rfl (zaq rfl rfl (zaq rfl rfl ?_))
            first | refine unq rfl rfl ⟨by omega, by omega⟩ ?_ | refine zaq rfl rfl ?_
            refine zEq rfl rfl ?_
            refine zaq rfl rfl (zeq ?_)
            refine zfq ?_
            refine zHq rfl (fun h5 => ?_) (fun h5 => ?_)
            · refine zcq (zbq (zaq rfl rfl (zeq ?_)))
              refine zfq (zjq ?_)
              refine zlq (by intro h; cases h) ?_
              exact znq (.inr rfl) rfl (by rw [hc, if_pos (by assumption)])
            · refine ziq (zfq (zcq (zbq (zaq rfl rfl (zeq ?_)))))
              refine zfq (zjq ?_)
              exact znq (.inr rfl) rfl (by rw [hc, if_neg (by assumption)])
theorem rmay_s (t : Tree) (hb : t.nodes.length ≤ 4611686018427387903) : PS cfg G 19 [tW t] (.bool (decide (MayT t))) := by
  have e : (t.nodes.map nW).length = t.nodes.length := List.length_map _
  refine ynq (fn := Try.f19) rfl rfl rfl (Nat.le_of_ble_eq_true rfl) (fun R k0 => ?_)
  refine zcq (zbq (zdq rfl rfl (zaq rfl rfl (zeq ?_))))
  refine zfq (zcq (zcq (zbq (zaq rfl rfl (zdq rfl rfl (zXq (w' := .int .i64 (t.nodes.length : Int)) rfl rfl (by rw [← e]; rfl) ?_))))))
  refine yYq rfl rfl (fun h1 => ?_) (fun h1 => ?_)
  · have hno : ¬ MayT t := fun h => by have := h.1; omega
    refine zaq rfl rfl (zgq rfl (zgq rfl (zgq rfl (zaq rfl rfl (zaq rfl rfl (zgq rfl (zgq rfl (zgq rfl (zgq rfl (zgq rfl (zgq rfl (zaq rfl rfl (zeq ?_)))))))))))))
    refine zfq (zQq rfl (zcq (zbq (zaq rfl rfl (zeq ?_)))))
    refine zfq (zjq ?_)
    refine zlq (by intro h; cases h) ?_
    exact znq (.inr rfl) rfl (by rw [decide_eq_false hno])
  refine zaq rfl rfl (zaq rfl rfl (zdq rfl rfl ?_))
  refine yYq rfl rfl (fun h2 => ?_) (fun h2 => ?_)
  · have hno : ¬ MayT t := fun h => by obtain ⟨_, _, n, _, h, _⟩ := h; have h2 : t.root < 0 := h2; omega
    refine zaq rfl rfl (zaq rfl rfl (zgq rfl (zgq rfl (zgq rfl (zgq rfl (zgq rfl (zgq rfl (zaq rfl rfl (zeq ?_)))))))))
    refine zfq (zQq rfl (zcq (zbq (zaq rfl rfl (zeq ?_)))))
    refine zfq (zjq ?_)
    refine zlq (by intro h; cases h) ?_
    exact znq (.inr rfl) rfl (by rw [decide_eq_false hno])
  refine zaq rfl rfl (zaq rfl rfl (zaq rfl rfl (zdq rfl rfl (zaq rfl rfl (zdq rfl rfl (zXq (w' := .int .i64 (t.nodes.length : Int)) rfl rfl (by rw [← e]; rfl) ?_))))))
  refine zEq rfl rfl ?_
  refine zaq rfl rfl (zeq ?_)
  refine zfq ?_
  refine zHq rfl (fun h3 => ?_) (fun h3 => ?_)
  · have hno : ¬ MayT t := fun h => by obtain ⟨_, _, n, _, h, hr, _⟩ := h; have h3 : (t.nodes.length : Int) < t.root := h3; have := hr.le; omega
    refine zcq (zbq (zaq rfl rfl (zeq ?_)))
    refine zfq (zjq ?_)
    refine zlq (by intro h; cases h) ?_
    exact znq (.inr rfl) rfl (by rw [decide_eq_false hno])
  have h2 : ¬ t.root < 0 := h2
  have h3 : ¬ (t.nodes.length : Int) < t.root := h3
  obtain ⟨n0, hn0⟩ := Int.eq_ofNat_of_zero_le (show 0 ≤ t.root by omega)
  refine ziq (zfq (zcq (zcq (zbq (zaq rfl rfl (zeq ?_))))))
  refine zfq (zmq ?_)
  refine ySq (α := Nat) (fun i => i ≤ t.nodes.length ∧ ∀ j x, j < i → t.nodes[j]? = some x → oneB x j) (fun i => [(3, .int .i64 (i : Int))]) [(1, _), (2, _)] (fun i => t.nodes.length - i) (0) ⟨rfl, rfl, trivial⟩ (⟨Nat.zero_le _, fun j x hj => by omega⟩) ⟨rfl, trivial⟩ (fun i hI => ?_)
  obtain ⟨hi, hI⟩ := hI
  refine zcq (zcq (zbq (zaq rfl rfl (zaq rfl rfl (zdq rfl rfl (zXq (w' := .int .i64 (t.nodes.length : Int)) rfl rfl (by rw [← e]; rfl) ?_))))))
  refine zEq rfl rfl ?_
  refine zeq ?_
  refine zfq ?_
  refine zHq rfl (fun h4 => ?_) (fun h4 => ?_)
  · have hi' : i < t.nodes.length := by omega
    obtain ⟨x, hx⟩ : ∃ x, t.nodes[i]? = some x := ⟨_, List.getElem?_eq_getElem hi'⟩
    refine ziq (zfq (zcq (zmq (zcq (zbq (zaq rfl rfl (zdq rfl rfl (zaq rfl rfl (zaq rfl (z8q (i := i) rfl rfl rfl rfl rfl rfl rfl (yKq nW hx)) (zdq rfl rfl (zaq rfl rfl (zsq rfl rfl rfl rfl rfl rfl (rone_s _ _ (by omega)) ?_))))))))))))
    refine zaq rfl rfl (zeq ?_)
    refine zfq ?_
    refine zHq rfl (fun h5 => ?_) (fun h5 => ?_)
    · have hno : ¬ MayT t := fun h => by have := h.2.1 i x hx; simp [this] at h5
      refine zcq (zbq (zaq rfl rfl (zeq ?_)))
      refine zfq (zjq ?_)
      refine ztq (by intro i h; cases h) ?_
      refine zlq (by intro h; cases h) ?_
      refine ykq (by intro h; cases h) ?_
      refine ztq (by intro i h; cases h) ?_
      refine zlq (by intro h; cases h) ?_
      exact znq (.inr rfl) rfl (by rw [decide_eq_false hno])
    · have h5 : oneB x i := by simpa using h5
      refine ziq (ztq (by intro i h; cases h) ?_)
      refine zfq (zbq (zaq rfl rfl (zAq (i + 1) rfl rfl (by first | rfl | omega) ⟨by omega, by omega⟩ ?_)))
      refine zaq rfl rfl (zeq ?_)
      exact yjq (i + 1) (⟨hi', fun j y hj hy => by rcases Nat.lt_succ_iff_lt_or_eq.1 hj with h | rfl; exact hI j y h hy; exact (Option.some.inj (hx.symm.trans hy)) ▸ h5⟩) (by omega) ⟨rfl, trivial⟩ ⟨rfl, rfl, trivial⟩ (by repeat (first | exact trivial | refine ⟨by first | rfl | exact zyq (by first | rfl | (simp; done)), ?_⟩)) (by omega) (by repeat (first | exact zMq | refine zPq (by omega) ?_ | refine zNq (by omega) ?_ | refine zOq (by omega) ?_)) rfl
  · have okn : okN t.nodes := fun j x hx => hI j x (by have := (List.getElem?_eq_some_iff.1 hx).1; omega) hx
    obtain ⟨t0, ht0⟩ := rep_of okn n0 (by omega)
    have key : MayT t ↔ t0.ok 0 qSq = true := by
      constructor
      · rintro ⟨_, _, n, t1, hn, hr, hk⟩
        obtain rfl : n = n0 := by omega
        rw [ht0.uniq hr]; exact hk
      · exact fun h => ⟨by omega, okn, n0, t0, hn0, ht0, h⟩
    refine ytq ?_
    refine zlq (by intro h; cases h) ?_
    refine ykq (by intro h; cases h) ?_
    refine qpq (zfq (zcq (zbq (zdq rfl rfl (zaq rfl rfl (zdq rfl rfl (zXq rfl rfl uyq ?_)))))))
    refine op_ps rfl rfl rfl rfl rfl (by rw [hn0]; rfl) (rright_s t (by omega) t0 n0 0 qSq ht0 (by omega)) (by simp) (by simp) ?_
    refine zEq rfl rfl ?_
    refine zaq rfl rfl (zeq ?_)
    refine zfq (zjq ?_)
    refine znq (.inr rfl) rfl ?_
    rw [show decide (MayT t) = decide (0 ≤ cntR t0 0 qSq) from decide_eq_decide.2 (key.trans (cntR_ge t0 0 qSq).symm)]
theorem rfor_s (t0 : Tree) (hb : t0.nodes.length ≤ 4611686018427387903) : ∀ (t : T) (n : Nat), Rep t0.nodes n t → t.all.length ≤ 1000000 → (∀ p ∈ t.all, p.2.length ≤ 70368744177664) → PL cfg G 46 [tW t0, .int .i64 (n : Int)] 88 33 (t.all.map pW) := by
  intro t
  induction t with
  | nil =>
    intro n hr hl hv R
    obtain rfl : n = 0 := by cases hr; rfl
    refine yuq (fn := Try.f46) rfl rfl rfl (Nat.le_of_ble_eq_true rfl) (fun k0 => ?_)
    refine zcq (zbq (zdq rfl rfl (zaq rfl rfl (zeq ?_))))
    refine zfq (zcq (zcq (zbq (zaq rfl rfl (zEq rfl rfl ?_)))))
    refine zeq ?_
    refine zfq ?_
    refine zHq rfl (fun h1 => ?_) (fun h1 => ?_)
    · refine zcq (zbq (zaq rfl rfl (zeq ?_)))
      refine zfq (zjq ?_)
      refine zlq (by intro h; cases h) ?_
      exact fin (w := gW 0 33 []) (.inr rfl) (vdq (b := 0) (ty := 88) (l2 := []) (H0 := []) (fr2 := []) 4 (by omega) (by omega) rfl trivial trivial (fun x r h => by cases h) rfl trivial List.nodup_nil) rfl ⟨rfl, rfl, rfl, rfl⟩
    · exfalso; omega
  | leaf k v =>
    intro n hr hl hv R
    have hle := hr.le
    have hvl := hv (k, v) (by simp [T.all])
    simp only at hvl
    cases hr with
    | leaf h =>
    rename_i n l r
    refine yuq (fn := Try.f46) rfl rfl rfl (Nat.le_of_ble_eq_true rfl) (fun k0 => ?_)
    refine zcq (zbq (zdq rfl rfl (zaq rfl rfl (zeq ?_))))
    refine zfq (zcq (zcq (zbq (zaq rfl rfl (zEq rfl rfl ?_)))))
    refine zeq ?_
    refine zfq ?_
    refine zHq rfl (fun h1 => ?_) (fun h1 => ?_)
    · exfalso; omega
    · refine ziq (zfq (zcq (zbq (zaq rfl rfl (zdq rfl rfl (zaq rfl rfl (zAq (n) rfl rfl (by first | rfl | omega) ⟨by omega, by omega⟩ ?_)))))))
      refine zaq rfl (z8q (i := n) rfl rfl rfl rfl rfl rfl rfl (yKq nW h)) (zdq rfl rfl (zdq rfl rfl (zdq rfl rfl (zeq ?_))))
      refine zfq (zcq (zcq (zbq (zaq rfl rfl (zdq rfl rfl (zeq ?_))))))
      refine zfq (zQq rfl (zcq (z0q (zhq rfl rfl (zGq rfl rfl ?_)))))
      refine zhq rfl rfl (zGq rfl rfl ?_)
      refine fl_ps rfl rfl rfl rfl rfl rfl (voq v false hvl) (by simp) (by simp) (by first | rfl | kernel_rfl) ?_
      refine zhq rfl rfl (zGq rfl rfl ?_)
      refine zhq rfl rfl (z9q ?_)
      refine zfq (zjq ?_)
      refine zlq (by intro h; cases h) ?_
      exact fin (w := gW 0 33 [pW (k, v)]) (.inr rfl) (ent_one (b := 0) (x := pW (k, v)) 2 4 (by omega) (by omega) (by omega) rfl rfl rfl rfl (by simp)) rfl ⟨rfl, rfl, rfl, rfl⟩
  | fork tl tr ihL ihR =>
    intro n hr hl hv R
    have hle := hr.le
    cases hr with
    | fork h hl0 hr0 hL hR =>
    rename_i n l r k v
    have hlen : tl.all.length + tr.all.length ≤ 1000000 := by simpa [T.all] using hl
    obtain ⟨l1, e1⟩ : ∃ q, q = tl.all.map pW := ⟨_, rfl⟩
    obtain ⟨l2, e2⟩ : ∃ q, q = tr.all.map pW := ⟨_, rfl⟩
    have P1 : PL cfg G 46 [tW t0, .int .i64 (l : Int)] 88 33 l1 := e1 ▸ ihL l hL (by omega) fun p hp => hv p (by simp [T.all, hp])
    have P2 : PL cfg G 46 [tW t0, .int .i64 (r : Int)] 88 33 l2 := e2 ▸ ihR r hR (by omega) fun p hp => hv p (by simp [T.all, hp])
    have p1 : purL l1 = true := by rw [e1]; exact jKq _
    have p2 : purL l2 = true := by rw [e2]; exact jKq _
    have hl1 : l1.length ≤ 1000000 := by rw [e1, List.length_map]; omega
    have hl2 : l2.length ≤ 1000000 := by rw [e2, List.length_map]; omega
    have e3 : (T.fork tl tr).all.map pW = l1 ++ l2 := by rw [e1, e2]; simp [T.all]
    rw [e3]
    clear e1 e2 e3
    refine yuq (fn := Try.f46) rfl rfl rfl (Nat.le_of_ble_eq_true rfl) (fun k0 => ?_)
    refine zcq (zbq (zdq rfl rfl (zaq rfl rfl (zeq ?_))))
    refine zfq (zcq (zcq (zbq (zaq rfl rfl (zEq rfl rfl ?_)))))
    refine zeq ?_
    refine zfq ?_
    refine zHq rfl (fun h1 => ?_) (fun h1 => ?_)
    · exfalso; omega
    · refine ziq (zfq (zcq (zbq (zaq rfl rfl (zdq rfl rfl (zaq rfl rfl (zAq (n) rfl rfl (by first | rfl | omega) ⟨by omega, by omega⟩ ?_)))))))
      refine zaq rfl (z8q (i := n) rfl rfl rfl rfl rfl rfl rfl (yKq nW h)) (zdq rfl rfl (zdq rfl rfl (zdq rfl rfl (zeq ?_))))
      refine zfq (zcq (zcq (zbq (zaq rfl rfl (zdq rfl rfl (zeq ?_))))))
      refine zfq (zCq rfl (ziq (zfq (zcq (z0q (zGq rfl rfl ?_))))))
      refine zhq rfl rfl (zGq rfl rfl ?_)
      skip
      skip
      cases l1 with
      | nil =>
        cases l2 with
        | nil =>
          (refine yMq rfl (kDq rfl rfl rfl rfl rfl (by simp) P1 (by assumption) ?_); refine ⟨by first | rfl | kernel_rfl, ?_⟩)
          refine zGq rfl rfl ?_
          refine zhq rfl rfl (zGq rfl rfl ?_)
          (refine yMq rfl (kDq rfl rfl rfl rfl rfl (by simp) P2 (by assumption) ?_); refine ⟨by first | rfl | kernel_rfl, ?_⟩)
          refine jjq rfl (jCq rfl rfl (YRq rfl rfl rfl rfl rfl)) (by first | rfl | kernel_rfl) ?_
          refine zhq rfl rfl (z9q ?_)
          refine zfq (zjq ?_)
          refine fin (w := gW 0 33 ([] : List W)) (.inr rfl) (vdq (b := 0) (ty := 88) (l2 := []) (H0 := []) (fr2 := []) 4 (by omega) (by omega) rfl trivial trivial (fun x r h => by cases h) rfl trivial List.nodup_nil) rfl ⟨rfl, ?_, ?_, rfl⟩
          · rfl
          · rfl
        | cons y2 r2 =>
          (refine yMq rfl (kDq rfl rfl rfl rfl rfl (by simp) P1 (by assumption) ?_); refine ⟨by first | rfl | kernel_rfl, ?_⟩)
          refine zGq rfl rfl ?_
          refine zhq rfl rfl (zGq rfl rfl ?_)
          (refine yMq rfl (kDq rfl rfl rfl rfl rfl (by simp) P2 (by assumption) ?_); refine ⟨by first | rfl | kernel_rfl, ?_⟩)
          refine jjq rfl (jCq rfl rfl (Zhq (news := y2 :: r2) (k := ti88) rfl rfl rfl rfl (jQq rfl rfl rfl (qeq (by decide) rfl rfl)) (by simp) (by show (y2 :: r2).length * 56 ≤ _; omega) (by omega))) (by first | rfl | kernel_rfl) ?_
          refine zhq rfl rfl (z9q ?_)
          refine zfq (zjq ?_)
          refine fin (w := gW 0 33 (y2 :: r2)) (.inr rfl) (jcq (b := 0) (l2 := y2 :: r2) (H0 := []) (fr2 := []) 4 4 (by omega) (by omega) (by omega) (by simp) rfl rfl trivial trivial rfl p2 trivial List.nodup_nil) rfl ⟨rfl, ?_, ?_, rfl⟩
          · rfl
          · rfl
      | cons y1 r1 =>
        cases l2 with
        | nil =>
          (refine yMq rfl (kDq rfl rfl rfl rfl rfl (by simp) P1 (by assumption) ?_); refine ⟨by first | rfl | kernel_rfl, ?_⟩)
          refine zGq rfl rfl ?_
          refine zhq rfl rfl (zGq rfl rfl ?_)
          (refine yMq rfl (kDq rfl rfl rfl rfl rfl (by simp) P2 (by assumption) ?_); refine ⟨by first | rfl | kernel_rfl, ?_⟩)
          refine jjq rfl (jCq rfl rfl (YQq (k := ti88) rfl rfl rfl rfl rfl)) (by first | rfl | kernel_rfl) ?_
          refine zhq rfl rfl (z9q ?_)
          refine zfq (zjq ?_)
          refine fin (w := gW 0 33 (y1 :: r1)) (.inr rfl) (jcq (b := 0) (l2 := y1 :: r1) (H0 := []) (fr2 := []) 2 4 (by omega) (by omega) (by omega) (by simp) rfl rfl trivial trivial rfl p1 trivial List.nodup_nil) rfl ⟨rfl, ?_, ?_, rfl⟩
          · rw [List.append_nil]
          · rw [List.append_nil]; rfl
        | cons y2 r2 =>
          (refine yMq rfl (kDq rfl rfl rfl rfl rfl (by simp) P1 (by assumption) ?_); refine ⟨by first | rfl | kernel_rfl, ?_⟩)
          refine zGq rfl rfl ?_
          refine zhq rfl rfl (zGq rfl rfl ?_)
          (refine yMq rfl (kDq rfl rfl rfl rfl rfl (by simp) P2 (by assumption) ?_); refine ⟨by first | rfl | kernel_rfl, ?_⟩)
          refine jjq rfl (jCq rfl rfl (uWq (len := (y1 :: r1).length) (news := y2 :: r2) (olds := y1 :: r1) (k := ti88) rfl rfl rfl rfl (jQq rfl rfl rfl (qeq (by decide) rfl rfl)) (by simp) (by show ((y1 :: r1).length + (y2 :: r2).length) * 56 ≤ _; omega) (by omega) rfl (by show (y1 :: r1).length * 33 < 0 + ((y1 :: r1).length + (y2 :: r2).length) * 33; simp only [List.length_cons]; omega) rfl (qeq (by decide) rfl rfl))) (by first | rfl | kernel_rfl) ?_
          refine zhq rfl rfl (z9q ?_)
          refine zfq (zjq ?_)
          refine fin (w := gW 0 33 ((y1 :: r1) ++ (y2 :: r2))) (.inr rfl) (jcq (b := 0) (l2 := (y1 :: r1) ++ (y2 :: r2)) (n := (y1 :: r1).length + (y2 :: r2).length) (H0 := []) (fr2 := []) 4 4 (by omega) (by omega) (by omega) (by simp) rfl (by rw [List.length_append]) trivial trivial rfl (by rw [purL_app, p1, p2]; rfl) trivial List.nodup_nil) rfl ⟨rfl, ?_, ?_, rfl⟩
          · rfl
          · rfl
theorem g_get (b e : Nat) (l : List W) (r : W) : yFq 50 (.agg 2 [gW b e l, r]) 0 1 false = some (gW b e l) := by cases l <;> rfl
theorem g_put (b e : Nat) (l : List W) (r : W) (b' n : Nat) : qwq 50 (.agg 2 [gW b e l, r]) 0 (.sl b' 0 0 n e none) = some (.agg 2 [.sl b' 0 0 n e none, r]) := by cases l <;> rfl
theorem rttwin_s (t : Tree) (hb : t.nodes.length ≤ 1000000000) (hv : ∀ x ∈ t.nodes, x.val.length ≤ 70368744177664) : PS cfg G 13 [tW t] (tW t) := by
  have e : (t.nodes.map nW).length = t.nodes.length := List.length_map _
  refine xbq (fn := Try.f13) rfl rfl rfl (Nat.le_of_ble_eq_true rfl) (fun R k0 => ?_)
  refine zcq (zbq (zdq rfl rfl (zdq rfl rfl (zeq ?_))))
  refine zfq (zcq (zbq (zaq rfl rfl (zdq rfl rfl (zaq rfl rfl (zdq rfl rfl (zdq rfl rfl (zeq ?_))))))))
  refine zfq (zcq (zcq (zbq ?_)))
  refine uMq (fun _ => ent_up (fr2 := [(1, .ptr 0 0), (2, .ptr 1 0), (3, .ptr 2 0)]) ⟨rfl, rfl, rfl, trivial⟩) ?_; refine zaq rfl rfl ?_
  refine zeq ?_
  refine zfq (zmq ?_)
  refine vfq (α := Nat) (fun i => i ≤ t.nodes.length) (fun i => [(4, .int .i64 (i : Int))]) [(1, _), (2, _), (3, _)] (fun i => [(2, 24, .agg 2 [gW 3 36 ((t.nodes.take i).map nW), .int .i64 t.root]), (1, 24, .agg 2 [.nils, .int .i64 0]), (0, 24, tW t)] ++ gH 3 70 36 ((t.nodes.take i).map nW)) (fun i => t.nodes.length - i) (0) ⟨rfl, rfl, rfl, trivial⟩ (Nat.zero_le _) ⟨rfl, trivial⟩ (rfl) (fun i hI => ?_)
  refine zcq (zcq (zbq (zaq rfl rfl (zaq rfl rfl (zdq rfl rfl (zXq (w' := .int .i64 (t.nodes.length : Int)) rfl rfl (by rw [← e]; rfl) ?_))))))
  refine zEq rfl rfl ?_
  refine zeq ?_
  refine zfq ?_
  refine zHq rfl (fun h1 => ?_) (fun h1 => ?_)
  · have hi : i < t.nodes.length := by omega
    obtain ⟨x, hx⟩ : ∃ x, t.nodes[i]? = some x := ⟨_, List.getElem?_eq_getElem hi⟩
    have hxv := hv x (List.mem_of_getElem? hx)
    have el : ((t.nodes.take i).map nW).length = i := by simp; omega
    have es : (t.nodes.take (i + 1)).map nW = (t.nodes.take i).map nW ++ [nW x] := by rw [List.take_add_one, hx, List.map_append]; rfl
    have ep : purL ((t.nodes.take i).map nW ++ [nW x]) = true := by rw [← es]; exact YBq nW_pur _
    refine ziq (zfq (zcq (zmq (zcq (zbq (zaq rfl rfl (zdq rfl rfl (zaq rfl rfl (zaq rfl (z8q (i := i) rfl rfl rfl rfl rfl rfl rfl (yKq nW hx)) (zdq rfl rfl (zdq rfl rfl (zdq rfl rfl (zeq ?_)))))))))))))
    refine zfq (zcq (zbq (zaq rfl rfl (zdq rfl rfl (zsq rfl rfl rfl rfl rfl rfl (voq x.val false hxv) ?_)))))
    refine zaq rfl rfl (zdq rfl rfl (zeq ?_))
    refine zfq (zbq (zaq rfl rfl (zdq rfl (y1q rfl rfl rfl (g_get 3 36 _ _)) (zdq rfl rfl (zdq rfl rfl (zdq rfl (jCq rfl rfl (Z1q [_, _, _, _, _] (k := ti70) (news := [nW x]) rfl rfl rfl rfl rfl (jQq rfl rfl rfl rfl) (by simp) (by show (((t.nodes.take i).map nW).length + 1) * 80 ≤ _; omega) (by show ((t.nodes.take i).map nW).length + 1 ≤ _; omega) rfl (by simp))) ?_))))))
    refine zaq rfl rfl (zdq rfl (uJq rfl rfl rfl rfl rfl (g_put 3 36 _ _ _ _) rfl) (zeq ?_))
    refine ztq (by intro i h; cases h) ?_
    refine zfq (zbq (zaq rfl rfl (zAq (i + 1) rfl rfl (by first | rfl | omega) ⟨by omega, by omega⟩ ?_)))
    refine zaq rfl rfl (zeq ?_)
    skip
    refine vvq (i + 1) hi (by omega) ?_
    simp only
    have hne : (t.nodes.take i).map nW ++ [nW x] ≠ [] := List.append_ne_nil_of_right_ne_nil _ (by simp)
    rw [es, gW_some hne, gH_some hne]
    refine joq (b := 3) (k := 6) (by omega) (by omega) (by omega) ⟨⟨rfl, rfl⟩, ⟨rfl, rfl⟩, ⟨rfl, rfl⟩, ⟨rfl, rfl⟩, trivial⟩ ⟨⟨by omega, rfl, rfl⟩, ⟨by omega, rfl, rfl⟩, ⟨by omega, ?_, zyq (by simp)⟩, ⟨by omega, ?_, zyq ep⟩, trivial⟩ (by simp)
    · rw [yBq (by simp)]; rfl
    · rw [yBq (by exact ep)]; rfl
  · have hi : i = t.nodes.length := by omega
    subst hi
    rw [List.take_length]
    refine ytq ?_
    refine zlq (by intro h; cases h) ?_
    refine q_out (by intro h; cases h) ?_
    refine qpq (zfq (zcq (zbq (zdq rfl rfl (zdq rfl rfl (zeq ?_))))))
    refine zfq (zjq ?_)
    refine kPq (by first | exact .inr rfl | exact .inl rfl) rfl ?_
    exact .agg (.cons (Zxq (H0 := [(2, 24, .agg 2 [gW 3 36 (t.nodes.map nW), .int .i64 t.root]), (1, 24, .agg 2 [gW 3 36 (t.nodes.map nW), .int .i64 t.root]), (0, 24, tW t)]) (by decide) (xnq _) (by simp)) (.cons (.pur rfl) .nil))
theorem tree_ext {a b : Tree} (h1 : a.nodes = b.nodes) (h2 : a.root = b.root) : a = b := by cases a; cases b; simp only at h1 h2; subst h1; subst h2; rfl
theorem node_ext {a b : Node} (h1 : a.leaf = b.leaf) (h2 : a.key = b.key) (h3 : a.val = b.val) (h4 : a.left = b.left) (h5 : a.right = b.right) : a = b := by cases a; cases b; simp only at h1 h2 h3 h4 h5; subst h1; subst h2; subst h3; subst h4; subst h5; rfl
noncomputable instance (a b : Tree) : Decidable (a = b) := Classical.propDecidable _
theorem rtsame_s (a b : Tree) (hb : a.nodes.length ≤ 1000000000) : PS cfg G 22 [tW a, tW b] (.bool (decide (a = b))) := by
  have ea : (a.nodes.map nW).length = a.nodes.length := List.length_map _
  have eb : (b.nodes.map nW).length = b.nodes.length := List.length_map _
  refine ynq (fn := Try.f22) rfl rfl rfl (Nat.le_of_ble_eq_true rfl) (fun R k0 => ?_)
  refine zcq (zbq (zdq rfl rfl (zdq rfl rfl (zaq rfl rfl (zeq ?_)))))
  refine zfq (zcq (zcq (zbq (zaq rfl rfl (zdq rfl rfl (zaq rfl rfl (zdq rfl rfl ?_)))))))
  refine yYq rfl rfl (fun h1 => ?_) (fun h1 => ?_)
  · have hno : ¬ a = b := fun h => h1 (by rw [h])
    refine zaq rfl rfl (zgq rfl (zgq rfl (zgq rfl (zgq rfl (zgq rfl (zgq rfl (zgq rfl (zaq rfl rfl (zeq ?_)))))))))
    refine zfq (zQq rfl (zcq (zbq (zaq rfl rfl (zeq ?_)))))
    refine zfq (zjq ?_)
    refine zlq (by intro h; cases h) ?_
    exact znq (.inr rfl) rfl (by rw [decide_eq_false hno])
  have hroot : a.root = b.root := by simpa using h1
  refine zaq rfl rfl (zaq rfl rfl (zdq rfl rfl (zXq (w' := .int .i64 (a.nodes.length : Int)) rfl rfl (by rw [← ea]; rfl) ?_)))
  refine zaq rfl rfl (zdq rfl rfl (zXq (w' := .int .i64 (b.nodes.length : Int)) rfl rfl (by rw [← eb]; rfl) ?_))
  refine zEq rfl rfl ?_
  refine zaq rfl rfl (zeq ?_)
  refine zfq ?_
  refine zHq rfl (fun h2 => ?_) (fun h2 => ?_)
  · have hno : ¬ a = b := fun h => h2 (by rw [h])
    refine zcq (zbq (zaq rfl rfl (zeq ?_)))
    refine zfq (zjq ?_)
    refine zlq (by intro h; cases h) ?_
    exact znq (.inr rfl) rfl (by rw [decide_eq_false hno])
  have hlen : a.nodes.length = b.nodes.length := by omega
  refine ziq (zfq (zcq (zcq (zbq (zaq rfl rfl (zeq ?_))))))
  refine zfq (zmq ?_)
  refine ySq (α := Nat) (fun i => i ≤ a.nodes.length ∧ a.nodes.take i = b.nodes.take i) (fun i => [(5, .int .i64 (i : Int))]) [(2, _), (3, _), (4, _)] (fun i => a.nodes.length - i) (0) ⟨rfl, rfl, rfl, trivial⟩ (⟨Nat.zero_le _, rfl⟩) ⟨rfl, trivial⟩ (fun i hI => ?_)
  obtain ⟨g1, g2⟩ := hI
  refine zcq (zcq (zbq (zaq rfl rfl (zaq rfl rfl (zdq rfl rfl (zXq (w' := .int .i64 (a.nodes.length : Int)) rfl rfl (by rw [← ea]; rfl) ?_))))))
  refine zEq rfl rfl ?_
  refine zeq ?_
  refine zfq ?_
  refine zHq rfl (fun h3 => ?_) (fun h3 => ?_)
  · have hi : i < a.nodes.length := by omega
    obtain ⟨x, hx⟩ : ∃ x, a.nodes[i]? = some x := ⟨_, List.getElem?_eq_getElem hi⟩
    obtain ⟨y, hy⟩ : ∃ y, b.nodes[i]? = some y := ⟨_, List.getElem?_eq_getElem (by omega)⟩
    have no : x ≠ y → ¬ a = b := fun h q => h (by subst q; exact Option.some.inj (hx.symm.trans hy))
    refine ziq (zfq (zcq (zmq (zcq (z0q (zhq rfl rfl (zGq rfl rfl ?_)))))))
    refine zhq rfl rfl (zhq rfl (z8q (i := i) rfl rfl rfl rfl rfl rfl rfl (yKq nW hx)) (zGq rfl rfl ?_))
    refine zhq rfl rfl (zGq rfl rfl ?_)
    refine zhq rfl rfl (zhq rfl (z8q (i := i) rfl rfl rfl rfl rfl rfl rfl (yKq nW hy)) (zGq rfl rfl ?_))
    refine zGq rfl rfl ?_
    refine zGq rfl rfl ?_
    refine zGq rfl rfl ?_
    refine zGq rfl rfl ?_
    refine z9q ?_
    refine zfq (zcq (zbq (zaq rfl rfl (zdq rfl rfl (zaq rfl rfl (zdq rfl rfl ?_))))))
    refine yYq rfl rfl (fun h4 => ?_) (fun h4 => ?_)
    · have hno := no fun q => by rw [q] at h4; simp at h4
      refine zaq rfl rfl (zgq rfl (zgq rfl (zgq rfl (zgq rfl (zgq rfl (zaq rfl rfl (zaq rfl rfl (zgq rfl (zgq rfl (zgq rfl (zgq rfl (zgq rfl (zgq rfl (zaq rfl rfl (zaq rfl rfl (zgq rfl (zgq rfl (zgq rfl (zgq rfl (zgq rfl (zaq rfl rfl (zaq rfl rfl (zgq rfl ?_)))))))))))))))))))))))
      refine zgq rfl (zgq rfl (zgq rfl (zgq rfl (zaq rfl rfl (zeq ?_)))))
      refine zfq (zQq rfl (zcq (zbq (zaq rfl rfl (zeq ?_)))))
      refine zfq (zjq ?_)
      refine ztq (by intro i h; cases h) ?_
      refine zlq (by intro h; cases h) ?_
      refine ykq (by intro h; cases h) ?_
      refine ztq (by intro i h; cases h) ?_
      refine zlq (by intro h; cases h) ?_
      exact znq (.inr rfl) rfl (by rw [decide_eq_false hno])
    refine zaq rfl rfl (zaq rfl rfl (zdq rfl rfl (zaq rfl rfl (zdq rfl rfl ?_))))
    refine op_dec rfl (uCq rfl rfl rfl rfl (qPq rfl rfl rfl rfl rfl rfl _ _ 250)) (uoq yQq) (fun h5 => ?_) (fun h5 => ?_)
    · have hno := no fun q => h5 (by rw [q])
      refine zaq rfl rfl (zaq rfl rfl (zgq rfl (zgq rfl (zgq rfl (zgq rfl (zgq rfl (zgq rfl (zaq rfl rfl (zaq rfl rfl (zgq rfl (zgq rfl (zgq rfl (zgq rfl (zgq rfl (zaq rfl rfl (zaq rfl rfl (zgq rfl (zgq rfl (zgq rfl (zgq rfl (zgq rfl (zaq rfl rfl (zeq ?_)))))))))))))))))))))))
      refine zfq (zQq rfl (zcq (zbq (zaq rfl rfl (zeq ?_)))))
      refine zfq (zjq ?_)
      refine ztq (by intro i h; cases h) ?_
      refine zlq (by intro h; cases h) ?_
      refine ykq (by intro h; cases h) ?_
      refine ztq (by intro i h; cases h) ?_
      refine zlq (by intro h; cases h) ?_
      exact znq (.inr rfl) rfl (by rw [decide_eq_false hno])
    refine zaq rfl rfl (zaq rfl rfl (zaq rfl rfl (zdq rfl rfl (zaq rfl rfl (zdq rfl rfl (zsq rfl rfl rfl rfl rfl rfl (same_s _ _ _ _) ?_))))))
    refine k8q (fun h6 => ?_) (fun h6 => ?_)
    · refine zaq rfl rfl (zaq rfl rfl (zaq rfl rfl (zaq rfl rfl (zdq rfl rfl (zaq rfl rfl (zdq rfl rfl ?_))))))
      refine yYq rfl rfl (fun h7 => ?_) (fun h7 => ?_)
      · have hno := no fun q => h7 (by rw [q])
        refine zaq rfl rfl (zaq rfl rfl (zgq rfl (zgq rfl (zgq rfl (zgq rfl (zgq rfl (zaq rfl rfl (zeq ?_))))))))
        refine zfq (zQq rfl (zcq (zbq (zaq rfl rfl (zeq ?_)))))
        refine zfq (zjq ?_)
        refine ztq (by intro i h; cases h) ?_
        refine zlq (by intro h; cases h) ?_
        refine ykq (by intro h; cases h) ?_
        refine ztq (by intro i h; cases h) ?_
        refine zlq (by intro h; cases h) ?_
        exact znq (.inr rfl) rfl (by rw [decide_eq_false hno])
      refine zaq rfl rfl (zaq rfl rfl (zaq rfl rfl (zdq rfl rfl (zaq rfl rfl (zdq rfl rfl (zEq rfl rfl ?_))))))
      refine zaq rfl rfl (zeq ?_)
      refine zfq ?_
      refine zHq rfl (fun h8 => ?_) (fun h8 => ?_)
      · have hno := no fun q => h8 (by rw [q])
        refine zcq (zbq (zaq rfl rfl (zeq ?_)))
        refine zfq (zjq ?_)
        refine ztq (by intro i h; cases h) ?_
        refine zlq (by intro h; cases h) ?_
        refine ykq (by intro h; cases h) ?_
        refine ztq (by intro i h; cases h) ?_
        refine zlq (by intro h; cases h) ?_
        exact znq (.inr rfl) rfl (by rw [decide_eq_false hno])
      have hxy : x = y := node_ext (by simpa using h4) (by simpa using h5) h6 (by simpa using h7) (by simpa using h8)
      refine ziq (ztq (by intro i h; cases h) ?_)
      refine zfq (zbq (zaq rfl rfl (zAq (i + 1) rfl rfl (by first | rfl | omega) ⟨by omega, by omega⟩ ?_)))
      refine zaq rfl rfl (zeq ?_)
      exact yjq (i + 1) (⟨hi, by rw [List.take_add_one, List.take_add_one, g2, hx, hy, hxy]⟩) (by omega) ⟨rfl, trivial⟩ ⟨rfl, rfl, rfl, trivial⟩ (by repeat (first | exact trivial | refine ⟨by first | rfl | exact zyq (by first | rfl | (simp; done)), ?_⟩)) (by omega) (by repeat (first | exact zMq | refine zPq (by omega) ?_ | refine zNq (by omega) ?_ | refine zOq (by omega) ?_)) rfl
    · have hno := no fun q => h6 (by rw [q])
      refine zaq rfl rfl (zaq rfl rfl (zaq rfl rfl (zgq rfl (zgq rfl (zgq rfl (zgq rfl (zgq rfl (zaq rfl rfl (zaq rfl rfl (zgq rfl (zgq rfl (zgq rfl (zgq rfl (zgq rfl (zaq rfl rfl (zeq ?_))))))))))))))))
      refine zfq (zQq rfl (zcq (zbq (zaq rfl rfl (zeq ?_)))))
      refine zfq (zjq ?_)
      refine ztq (by intro i h; cases h) ?_
      refine zlq (by intro h; cases h) ?_
      refine ykq (by intro h; cases h) ?_
      refine ztq (by intro i h; cases h) ?_
      refine zlq (by intro h; cases h) ?_
      exact znq (.inr rfl) rfl (by rw [decide_eq_false hno])
  · refine ytq ?_
    refine zlq (by intro h; cases h) ?_
    refine ykq (by intro h; cases h) ?_
    refine qpq (zfq (zcq (zbq (zaq rfl rfl (zeq ?_)))))
    refine zfq (zjq ?_)
    refine znq (.inr rfl) rfl ?_
    rw [decide_eq_true]
    have := g2
    rw [List.take_of_length_le (by omega), List.take_of_length_le (by omega)] at this
    exact tree_ext this hroot
theorem rall_s (t : Tree) (n : Nat) (t0 : T) (h : IsT t n t0) : PS cfg G 21 [tW t] (psW t0.all) := by
  have h1 := h.all_le
  have h2 := h.len
  have h3 := h.root
  obtain ⟨ns, root⟩ := t
  simp only at h1 h2 h3
  subst h3
  have P := (rfor_s (G := G) ⟨ns, (n : Int)⟩ (by show ns.length ≤ _; omega) t0 n h.rep (by omega) (fun p hp => by have := (h.val p hp).2; omega)).ps (by decide) (jKq _)
  refine ynq (fn := Try.f21) rfl rfl rfl (Nat.le_of_ble_eq_true rfl) (fun R k0 => ?_)
  refine zcq (zbq (zdq rfl rfl (zaq rfl rfl (zeq ?_))))
  refine zfq (zcq (zbq (zdq rfl rfl (zaq rfl rfl (zdq rfl rfl ?_)))))
  refine op_ps rfl rfl rfl rfl rfl rfl P (by simp) (by simp) ?_
  refine zaq rfl rfl (zeq ?_)
  refine zfq (zjq ?_)
  exact znq (.inr rfl) rfl rfl
end Go.Proofs.Ytgeelfdgnehdnaa
namespace Go.Proofs.Ytgeelfdgnehdnaa
open Go.RowKit
set_option linter.unusedSimpArgs false
set_option linter.unusedVariables false
attribute [local irreducible] CoW OpW FlW Step Spec
variable {G : Nat → Option W}
theorem rnumber_s (l : List UInt8) (f : Bool) (hl : l.length ≤ 8) : PS cfg G 81 [.fz (zDq l) 1 f] (.int .u64 (numB l : Nat)) := by
  have e := yqq l
  refine ynq (fn := Try.f81) rfl rfl rfl (Nat.le_of_ble_eq_true rfl) (fun R k0 => ?_)
  refine zcq (zbq (zaq rfl rfl (zeq ?_)))
  refine zfq (zcq (zbq (zaq rfl rfl (zeq ?_))))
  refine zfq (zcq (zcq (zbq (zaq rfl rfl (zeq ?_)))))
  refine zfq (zmq ?_)
  refine ySq (α := Nat) (fun i => i ≤ l.length) (fun i => [(4, .int .i64 (i : Int)), (3, .int .u64 (numB (l.take i) : Nat))]) [(0, _), (2, _)] (fun i => l.length - i) (0) ⟨rfl, rfl, trivial⟩ (Nat.zero_le _) ⟨rfl, rfl, trivial⟩ (fun i hI => ?_)
  refine zcq (zcq (zbq (zaq rfl rfl (zaq rfl rfl (zXq (w' := .int .i64 (l.length : Int)) rfl rfl (by rw [← e]; rfl) ?_)))))
  refine zEq rfl rfl ?_
  refine zeq ?_
  refine zfq ?_
  refine zHq rfl (fun h1 => ?_) (fun h1 => ?_)
  · have hi : i < l.length := by omega
    obtain ⟨c, hc⟩ : ∃ c, l[i]? = some c := ⟨_, List.getElem?_eq_getElem hi⟩
    have hcl := c.toNat_lt
    have hn := uNq (l := l) (i := i) (by omega)
    have ht := numB_take hc
    have hlt : numB (l.take (i + 1)) < 18446744073709551616 := by
      have h1 := Yxq (l.take (i + 1))
      have h2 : 256 ^ (l.take (i + 1)).length ≤ 256 ^ (i + 1) := Nat.pow_le_pow_right (by omega) (by simp; omega)
      have h3 := pow256_le (i := i + 1) (by omega)
      omega
    refine ziq (zfq (zcq (zmq (zbq (zaq rfl rfl (zAq (256 * numB (l.take i)) rfl rfl (by first | rfl | omega) ⟨by omega, by omega⟩ ?_))))))
    refine zaq rfl rfl (zaq rfl rfl (zaq rfl (z8q (i := i) rfl rfl rfl rfl rfl rfl rfl (x8q hc)) (zdq rfl rfl (zAq (c.toNat) rfl rfl (by first | rfl | omega) ⟨by omega, by omega⟩ ?_))))
    refine zAq (numB (l.take (i + 1))) rfl rfl (by rw [ht]; omega) ⟨by omega, by omega⟩ ?_
    refine zaq rfl rfl (zeq ?_)
    refine ztq (by intro i h; cases h) ?_
    refine zfq (zbq (zaq rfl rfl (zAq (i + 1) rfl rfl (by first | rfl | omega) ⟨by omega, by omega⟩ ?_)))
    refine zaq rfl rfl (zeq ?_)
    exact yjq (i + 1) (hi) (by omega) ⟨rfl, rfl, trivial⟩ ⟨rfl, rfl, trivial⟩ (by repeat (first | exact trivial | refine ⟨by first | rfl | exact zyq (by first | rfl | (simp; done)), ?_⟩)) (by omega) (by repeat (first | exact zMq | refine zPq (by omega) ?_ | refine zNq (by omega) ?_ | refine zOq (by omega) ?_)) rfl
  · have hi : i = l.length := by omega
    subst hi
    rw [List.take_length]
    refine ytq ?_
    refine zlq (by intro h; cases h) ?_
    refine ykq (by intro h; cases h) ?_
    refine qpq (zfq (zcq (zbq (zaq rfl rfl (zaq rfl rfl (zeq ?_))))))
    refine zfq (zjq ?_)
    exact znq (.inr rfl) rfl rfl
theorem rdigits_s (n size : Nat) (hn : n < 18446744073709551616) (hs8 : size ≤ 8) : qVq cfg G 84 0 [.int .u64 (n : Int), .int .i64 (size : Int)] [] fun w hp nw =>
    w = .tup [.sl 0 0 0 size 1 none, .bool (decide (n / 256 ^ size = 0))] ∧ hp = [(0, 5, .arr (size * 1) 1 (zDq (beB size n)))] ∧ nw = 1 := by
  intro R
  refine yuq (fn := Try.f84) rfl rfl rfl (Nat.le_of_ble_eq_true rfl) (fun k0 => ?_)
  refine zcq (zbq (zaq rfl rfl (zaq rfl rfl (zeq ?_))))
  refine zfq (zcq (zbq (zaq rfl rfl (zdq rfl (Yzq (l := size) (c := size) rfl rfl rfl rfl rfl rfl rfl rfl (Nat.le_refl _) (by show 1 * size ≤ _; omega) (by omega) rfl rfl) ?_))))
  refine zaq rfl rfl (zeq ?_)
  refine zfq (zcq (zcq (zbq (zaq rfl rfl ?_))))
  refine op_z ((size : Int) - 1 - ((0 : Nat) : Int)) rfl rfl (by omega) ⟨by omega, by omega⟩ ?_
  refine zaq rfl rfl (zeq ?_)
  refine zfq (zmq ?_)
  refine vfq (α := Nat × Nat) (fun p => p.1 ≤ size ∧ p.2 = n / 256 ^ p.1) (fun p => [(7, .int .i64 ((size : Int) - 1 - (p.1 : Int))), (0, .int .u64 (p.2 : Nat))]) [(4, _), (5, _), (6, _)] (fun p => [(0, 5, .arr (size * 1) 1 (zDq (List.replicate (size - p.1) 0 ++ beB p.1 n)))]) (fun p => size - p.1) ((0, n)) ⟨rfl, rfl, rfl, trivial⟩ (⟨Nat.zero_le _, by simp⟩) ⟨rfl, rfl, trivial⟩ (by simp only [be_zero]; rfl) (fun p hI => ?_)
  obtain ⟨i, q⟩ := p
  obtain ⟨g1, g2⟩ := hI
  simp only at g1 g2 ⊢
  have hlt : q < 18446744073709551616 := by rw [g2]; exact Nat.lt_of_le_of_lt (Nat.div_le_self _ _) hn
  refine zcq (zcq (zbq (zaq rfl rfl (zEq rfl rfl ?_))))
  refine zeq ?_
  refine zfq ?_
  refine zHq rfl (fun h1 => ?_) (fun h1 => ?_)
  · have hi : i < size := by omega
    have hq : q / 256 = n / 256 ^ (i + 1) := by rw [g2, Nat.div_div_eq_div_mul, ← Nat.pow_succ]
    have hset := be_set n size i hi
    rw [← g2] at hset
    refine ziq (zfq (zcq (zmq (zcq (zbq (zaq rfl rfl (zXq (w' := .int .i64 ((size - 1 - i : Nat) : Int)) rfl rfl (by congr 1; omega) ?_)))))))
    refine zaq rfl rfl (zXq (w' := .int .u64 ((q % 256 : Nat) : Int)) rfl rfl (congrArg (W.int .u64) (kXq q 256)) (zAq (q % 256) rfl rfl (by first | rfl | omega) ⟨by omega, by omega⟩ ?_))
    refine zaq rfl (ylq (i := size - 1 - i) rfl rfl rfl rfl rfl rfl rfl (by omega)) ?_
    refine zdq rfl (uJq rfl rfl rfl rfl rfl (kZq (be_at n size i hi) rfl rfl) (congrArg (fun L => [(0, 5, W.arr (size * 1) 1 L)]) hset)) (zeq ?_)
    refine zfq (zbq (zaq rfl rfl (zAq (q / 256) rfl rfl (j6q q 256) ⟨by omega, by omega⟩ ?_)))
    refine zaq rfl rfl (zeq ?_)
    refine ztq (by intro i h; cases h) ?_
    refine zfq (zbq (zaq rfl rfl ?_))
    refine op_z ((size : Int) - 1 - ((i + 1 : Nat) : Int)) rfl rfl (by omega) ⟨by omega, by omega⟩ ?_
    refine zaq rfl rfl (zeq ?_)
    exact Yoq ((i + 1, q / 256)) (⟨hi, hq⟩) (by simp only; omega) ⟨rfl, rfl, trivial⟩ ⟨rfl, rfl, rfl, trivial⟩ rfl
  · have hi : i = size := by omega
    subst hi
    refine ytq ?_
    refine zlq (by intro h; cases h) ?_
    refine q_out (by intro h; cases h) ?_
    refine qpq (zfq (zcq (zbq (zaq rfl rfl (zaq rfl rfl (zXq (w' := .bool (decide (n / 256 ^ i = 0))) rfl rfl (congrArg W.bool (by rw [Bool.eq_iff_iff, eqI_iff, decide_eq_true_iff, ← g2]; omega)) ?_))))))
    refine zaq rfl rfl (zaq rfl rfl (zeq ?_))
    refine zfq (zjq ?_)
    refine fin (.inr rfl) Ent.refl rfl ⟨rfl, rfl, ?_, rfl⟩
    rw [Nat.sub_self]
    rfl
theorem rabytes_s (a : Acct) (h : a.ok) : PS cfg G 67 [aW a] (bW (qyq a)) := by
  have h1 : a.nonce < 18446744073709551616 := h.1
  have h2 : a.balance < 18446744073709551616 := h.2
  refine ynq (fn := Try.f67) rfl rfl rfl (Nat.le_of_ble_eq_true rfl) (fun R k0 => ?_)
  have l1 : (zDq (beB 8 a.nonce)).length = 8 := by rw [yqq, uDq]
  have l2 : (zDq (beB 8 a.balance)).length = 8 := by rw [yqq, uDq]
  refine zcq (zbq (zdq rfl rfl (zaq rfl rfl (zeq ?_))))
  refine zfq (zcq (zbq (zaq rfl rfl (zdq rfl rfl ?_))))
  ((refine z3q rfl (vmq rfl rfl rfl rfl rfl rfl (rdigits_s _ 8 (by assumption) (by omega)) ?_); rintro w hp1 nw1 ⟨rfl, rfl, rfl⟩))
  refine zaq rfl rfl (zaq rfl rfl (zaq rfl rfl (zaq rfl rfl (zaq rfl rfl (zeq ?_)))))
  refine zfq (zcq (zbq (zaq rfl rfl (zdq rfl rfl ?_))))
  ((refine z3q rfl (vmq rfl rfl rfl rfl rfl rfl (rdigits_s _ 8 (by assumption) (by omega)) ?_); rintro w hp1 nw1 ⟨rfl, rfl, rfl⟩))
  refine zaq rfl rfl (zaq rfl rfl (zaq rfl rfl (zaq rfl rfl (zaq rfl rfl (zeq ?_)))))
  refine zfq (zcq (zbq (zaq rfl rfl (zaq rfl rfl (zdq rfl (jCq rfl rfl (uWq (k := ti5) (len := 8) (news := zDq (beB 8 a.balance)) (olds := zDq (beB 8 a.nonce)) rfl rfl rfl rfl (jQq rfl rfl rfl (jsq (n := 8) (m := 8) l2.symm rfl)) (by intro h; rw [h] at l2; simp at l2) (by rw [l2]; decide) (by rw [l2]; decide) rfl (by show 8 * 1 < 0 + (8 + (zDq (beB 8 a.balance)).length) * 1; rw [l2]; omega) rfl (jsq (n := 8) (m := 8) l1.symm rfl))) ?_)))))
  refine zaq rfl rfl (zeq ?_)
  refine zfq (zjq ?_)
  refine kQq (fr2 := [(2, bW (qyq a))]) (.inr rfl) ⟨⟨_, rfl, .sl (xs := zDq (qyq a)) rfl (by simp) ?_ (by intro h; cases h)⟩, trivial⟩ rfl rfl
  rw [qyq, k5q, l2]
  exact jsq (n := 16) (by rw [List.length_append, l1, l2]) rfl
theorem Yjq (l : List UInt8) (f : Bool) : PS cfg G 64 [.fz (zDq l) 1 f] (.tup [aW (qhq l).1, .int .i64 ((qhq l).2 : Nat)]) := by
  have e := yqq l
  refine xbq (fn := Try.f64) rfl rfl rfl (Nat.le_of_ble_eq_true rfl) (fun R k0 => ?_)
  refine zcq (zbq (zdq rfl rfl (zaq rfl rfl (zeq ?_))))
  refine zfq (zcq (zcq (zbq (zaq rfl rfl (zXq (w' := .int .i64 (l.length : Int)) rfl rfl (by rw [← e]; rfl) ?_)))))
  refine zEq rfl rfl ?_
  refine zeq ?_
  refine zfq ?_
  refine zHq rfl (fun h1 => ?_) (fun h1 => ?_)
  · have q : qhq l = (.zero, 10) := by unfold qhq; rw [if_pos (by omega)]
    rw [q]
    refine zcq (zbq (zaq rfl rfl (zdq rfl rfl (zaq rfl rfl (zeq ?_)))))
    refine zfq (zjq ?_)
    refine zlq (by intro h; cases h) ?_
    refine kPq (by first | exact .inr rfl | exact .inl rfl) rfl ?_
    (repeat (first | exact .nil | refine .cons ?_ ?_ | exact qiq | exact .nilfz | refine .fn ?_ ?_ | (refine y7q rfl ?_ rfl; (first | rfl | (focus (simp; done)))) | (refine .sl rfl ?_ rfl (by intro h; cases h); (first | rfl | (focus (simp; done)))) | (refine .pur ?_; (first | rfl | (focus (simp; done)))) | (refine .fzw ?_; (first | rfl | (focus (simp; done)))) | refine .agg ?_ | refine .arr ?_ | refine .tup ?_))
  refine ziq (zfq (zcq (zcq (zbq (zaq rfl rfl (zXq (w' := .int .i64 (l.length : Int)) rfl rfl (by rw [← e]; rfl) ?_))))))
  refine zEq rfl rfl ?_
  refine zeq ?_
  refine zfq ?_
  refine zHq rfl (fun h2 => ?_) (fun h2 => ?_)
  · have q : qhq l = (.zero, 11) := by unfold qhq; rw [if_neg (by omega), if_pos (by omega)]
    rw [q]
    refine zcq (zbq (zaq rfl rfl (zdq rfl rfl (zaq rfl rfl (zeq ?_)))))
    refine zfq (zjq ?_)
    refine zlq (by intro h; cases h) ?_
    refine kPq (by first | exact .inr rfl | exact .inl rfl) rfl ?_
    (repeat (first | exact .nil | refine .cons ?_ ?_ | exact qiq | exact .nilfz | refine .fn ?_ ?_ | (refine y7q rfl ?_ rfl; (first | rfl | (focus (simp; done)))) | (refine .sl rfl ?_ rfl (by intro h; cases h); (first | rfl | (focus (simp; done)))) | (refine .pur ?_; (first | rfl | (focus (simp; done)))) | (refine .fzw ?_; (first | rfl | (focus (simp; done)))) | refine .agg ?_ | refine .arr ?_ | refine .tup ?_))
  have hl : l.length = 16 := by omega
  have q : qhq l = if (⟨numB (l.take 8), numB (l.drop 8)⟩ : Acct) = .zero then (.zero, 8) else (⟨numB (l.take 8), numB (l.drop 8)⟩, 0) := by unfold qhq; rw [if_neg (by omega), if_neg (by omega)]
  rw [q]
  refine ziq (zfq (zcq (z0q (zhq rfl rfl (zhq rfl (vZq (ys := zDq (l.take 8)) (l := 0) (h := 8) rfl rfl rfl rfl rfl rfl rfl (by omega) (by omega) (by rw [List.drop_zero, Zbq]) rfl) ?_)))))
  refine qKq rfl rfl rfl rfl rfl rfl (rnumber_s _ _ (by simp; omega)) ?_
  refine zhq rfl rfl (zhq rfl (vZq (ys := zDq (l.drop 8)) (l := 8) (h := (zDq l).length) rfl rfl rfl rfl rfl rfl rfl (by omega) (Nat.le_refl _) (by rw [List.take_of_length_le (by simp), Zcq]) rfl) ?_)
  refine qKq rfl rfl rfl rfl rfl rfl (rnumber_s _ _ (by simp; omega)) ?_
  refine zhq rfl rfl (zGq rfl rfl ?_)
  refine zGq rfl rfl ?_
  refine z9q ?_
  refine zfq (zcq (zcq (zbq (zaq rfl rfl (zdq rfl rfl ?_)))))
  refine yYq rfl rfl (fun h3 => ?_) (fun h3 => ?_)
  · have z1 : numB (l.take 8) = 0 := by omega
    refine zaq rfl rfl (zaq rfl rfl (zdq rfl rfl (zEq rfl rfl ?_)))
    refine zaq rfl rfl (zeq ?_)
    refine zfq ?_
    refine zHq rfl (fun h4 => ?_) (fun h4 => ?_)
    · have z2 : numB (l.drop 8) = 0 := by omega
      rw [if_pos (by rw [z1, z2]; rfl)]
      refine zcq (zbq (zaq rfl rfl (zdq rfl rfl (zaq rfl rfl (zeq ?_)))))
      refine zfq (zjq ?_)
      refine zlq (by intro h; cases h) ?_
      refine kPq (by first | exact .inr rfl | exact .inl rfl) rfl ?_
      (repeat (first | exact .nil | refine .cons ?_ ?_ | exact qiq | exact .nilfz | refine .fn ?_ ?_ | (refine y7q rfl ?_ rfl; (first | rfl | (focus (simp; done)))) | (refine .sl rfl ?_ rfl (by intro h; cases h); (first | rfl | (focus (simp; done)))) | (refine .pur ?_; (first | rfl | (focus (simp; done)))) | (refine .fzw ?_; (first | rfl | (focus (simp; done)))) | refine .agg ?_ | refine .arr ?_ | refine .tup ?_))
    · have z2 : ¬ numB (l.drop 8) = 0 := by omega
      rw [if_neg fun h => z2 (by injection h)]
      refine ziq (zfq (zcq (zbq (zdq rfl rfl (zdq rfl rfl (zaq rfl rfl (zeq ?_)))))))
      refine zfq (zjq ?_)
      refine kPq (by first | exact .inr rfl | exact .inl rfl) rfl ?_
      (repeat (first | exact .nil | refine .cons ?_ ?_ | exact qiq | exact .nilfz | refine .fn ?_ ?_ | (refine y7q rfl ?_ rfl; (first | rfl | (focus (simp; done)))) | (refine .sl rfl ?_ rfl (by intro h; cases h); (first | rfl | (focus (simp; done)))) | (refine .pur ?_; (first | rfl | (focus (simp; done)))) | (refine .fzw ?_; (first | rfl | (focus (simp; done)))) | refine .agg ?_ | refine .arr ?_ | refine .tup ?_))
  · have z1 : ¬ numB (l.take 8) = 0 := by omega
    rw [if_neg fun h => z1 (by injection h)]
    refine zaq rfl rfl (zgq rfl (zgq rfl (zgq rfl (zaq rfl rfl (zeq ?_)))))
    refine zfq (zCq rfl (ziq (zfq (zcq (zbq (zdq rfl rfl (zdq rfl rfl (zaq rfl rfl (zeq ?_)))))))))
    refine zfq (zjq ?_)
    refine kPq (by first | exact .inr rfl | exact .inl rfl) rfl ?_
    (repeat (first | exact .nil | refine .cons ?_ ?_ | exact qiq | exact .nilfz | refine .fn ?_ ?_ | (refine y7q rfl ?_ rfl; (first | rfl | (focus (simp; done)))) | (refine .sl rfl ?_ rfl (by intro h; cases h); (first | rfl | (focus (simp; done)))) | (refine .pur ?_; (first | rfl | (focus (simp; done)))) | (refine .fzw ?_; (first | rfl | (focus (simp; done)))) | refine .agg ?_ | refine .arr ?_ | refine .tup ?_))
def HeldB (ps : List Pr) : Prop := ∀ p ∈ ps, (qhq p.2).2 = 0
noncomputable instance (ps : List Pr) : Decidable (HeldB ps) := Classical.propDecidable _
theorem rheld_s (ps : List Pr) (f : Bool) (hb : ps.length ≤ 1000000000) : PS cfg G 63 [.fz (ps.map pW) 33 f] (.bool (decide (HeldB ps))) := by
  have e : (ps.map pW).length = ps.length := List.length_map _
  refine ynq (fn := Try.f63) rfl rfl rfl (Nat.le_of_ble_eq_true rfl) (fun R k0 => ?_)
  refine zcq (zbq (zaq rfl rfl (zeq ?_)))
  refine zfq (zcq (zcq (zbq (zaq rfl rfl (zeq ?_)))))
  refine zfq (zmq ?_)
  refine ySq (α := Nat) (fun i => i ≤ ps.length ∧ ∀ j x, j < i → ps[j]? = some x → (qhq x.2).2 = 0) (fun i => [(3, .int .i64 (i : Int))]) [(0, _), (2, _)] (fun i => ps.length - i) (0) ⟨rfl, rfl, trivial⟩ (⟨Nat.zero_le _, fun j x h => by omega⟩) ⟨rfl, trivial⟩ (fun i hI => ?_)
  obtain ⟨g1, g2⟩ := hI
  refine zcq (zcq (zbq (zaq rfl rfl (zaq rfl rfl (zXq (w' := .int .i64 (ps.length : Int)) rfl rfl (by rw [← e]; rfl) ?_)))))
  refine zEq rfl rfl ?_
  refine zeq ?_
  refine zfq ?_
  refine zHq rfl (fun h1 => ?_) (fun h1 => ?_)
  · have hi : i < ps.length := by omega
    obtain ⟨x, hx⟩ : ∃ x, ps[i]? = some x := ⟨_, List.getElem?_eq_getElem hi⟩
    refine ziq (zfq (zcq (zmq (zcq (zbq (zaq rfl rfl (zaq rfl rfl (zaq rfl (z8q (i := i) rfl rfl rfl rfl rfl rfl rfl (yKq pW hx)) (zaq rfl rfl (zdq rfl rfl (zsq rfl rfl rfl rfl rfl rfl (Yjq _ _) ?_)))))))))))
    refine zaq rfl rfl (zaq rfl rfl (zaq rfl rfl (zdq rfl rfl (zdq rfl rfl (zaq rfl rfl (zeq ?_))))))
    refine zfq (zcq (zbq (zaq rfl rfl (zEq rfl rfl ?_))))
    refine zeq ?_
    refine zfq ?_
    refine zHq rfl (fun h2 => ?_) (fun h2 => ?_)
    · refine zcq (zbq (zaq rfl rfl (zeq ?_)))
      refine zfq (zjq ?_)
      refine ztq (by intro i h; cases h) ?_
      refine zlq (by intro h; cases h) ?_
      refine ykq (by intro h; cases h) ?_
      refine ztq (by intro i h; cases h) ?_
      refine zlq (by intro h; cases h) ?_
      have hno : ¬ HeldB ps := fun h => by have := h x (List.mem_of_getElem? hx); omega
      exact znq (.inr rfl) rfl (by rw [decide_eq_false hno])
    · have h0 : (qhq x.2).2 = 0 := by omega
      refine ziq (ztq (by intro i h; cases h) ?_)
      refine zfq (zbq (zaq rfl rfl (zAq (i + 1) rfl rfl (by first | rfl | omega) ⟨by omega, by omega⟩ ?_)))
      refine zaq rfl rfl (zeq ?_)
      exact yjq (i + 1) (⟨hi, fun j y hj hy => by rcases Nat.lt_succ_iff_lt_or_eq.1 hj with q | rfl; exact g2 j y q hy; have := Option.some.inj (hx.symm.trans hy); subst this; exact h0⟩) (by omega) ⟨rfl, trivial⟩ ⟨rfl, rfl, trivial⟩ (by repeat (first | exact trivial | refine ⟨by first | rfl | exact zyq (by first | rfl | (simp; done)), ?_⟩)) (by omega) (by repeat (first | exact zMq | refine zPq (by omega) ?_ | refine zNq (by omega) ?_ | refine zOq (by omega) ?_)) rfl
  · refine ytq ?_
    refine zlq (by intro h; cases h) ?_
    refine ykq (by intro h; cases h) ?_
    refine qpq (zfq (zcq (zbq (zaq rfl rfl (zeq ?_)))))
    refine zfq (zjq ?_)
    have yes : HeldB ps := fun p hp => by
      obtain ⟨j, hj⟩ := List.getElem?_of_mem hp
      have := (List.getElem?_eq_some_iff.1 hj).1
      exact g2 j p (by omega) hj
    exact znq (.inr rfl) rfl (by rw [decide_eq_true yes])
theorem mayA_iff {t : Tree} {n : Nat} {t0 : T} (h : IsT t n t0) : MayA t ↔ HeldB t0.all := by
  constructor
  · rintro ⟨n', t', h'⟩
    have hn : n = n' := by have := h.root; have := h'.root; omega
    subst hn
    rw [h.rep.uniq h'.rep]
    exact h'.held
  · exact fun q => ⟨n, t0, h, q⟩
theorem mayA_T {t : Tree} (h : MayA t) : MayT t := by obtain ⟨n, t0, h⟩ := h; exact h.toIsT.may
theorem kFq (t : Tree) (hb : t.nodes.length ≤ 4611686018427387903) : PS cfg G 37 [tW t] (.bool (decide (MayA t))) := by
  by_cases hT : MayT t
  · obtain ⟨n, t0, h⟩ := may_is hT
    have hl : t0.all.length ≤ 1000000000 := by have := h.all_le; have := h.len; omega
    have h2 : decide (MayA t) = decide (HeldB t0.all) := decide_eq_decide.2 (mayA_iff h)
    rw [h2]
    refine ynq (fn := Try.f37) rfl rfl rfl (Nat.le_of_ble_eq_true rfl) (fun R k0 => ?_)
    refine zcq (zbq (zdq rfl rfl (zaq rfl rfl (zeq ?_))))
    refine zfq (zcq (zbq (zdq rfl rfl (zsq rfl rfl rfl rfl rfl rfl (yXq (w' := .bool true) (rmay_s t hb) (by rw [decide_eq_true hT])) ?_))))
    refine k8q (fun h1 => ?_) (fun h1 => ?_)
    · refine zaq rfl rfl (zdq rfl rfl (zsq rfl rfl rfl rfl rfl rfl (rall_s t n t0 h) ?_))
      refine zsq rfl rfl rfl rfl rfl rfl (rheld_s _ _ (by assumption)) ?_
      refine zaq rfl rfl (zaq rfl rfl (zeq ?_))
      refine zfq (zjq ?_)
      exact znq (.inr rfl) rfl rfl
    · exfalso; exact h1 rfl
  · have h2 : decide (MayA t) = false := decide_eq_false fun h => hT (mayA_T h)
    rw [h2]
    refine ynq (fn := Try.f37) rfl rfl rfl (Nat.le_of_ble_eq_true rfl) (fun R k0 => ?_)
    refine zcq (zbq (zdq rfl rfl (zaq rfl rfl (zeq ?_))))
    refine zfq (zcq (zbq (zdq rfl rfl (zsq rfl rfl rfl rfl rfl rfl (yXq (w' := .bool false) (rmay_s t hb) (by rw [decide_eq_false hT])) ?_))))
    refine k8q (fun h1 => ?_) (fun h1 => ?_)
    · exfalso; cases h1
    · refine zaq rfl rfl (zgq rfl (zgq rfl (zgq rfl (zaq rfl rfl (zaq rfl rfl (zeq ?_))))))
      refine zfq (zjq ?_)
      exact znq (.inr rfl) rfl rfl
theorem idx_find (k : Dig) : ∀ ps : List Pr, (∃ (i : Nat) (x : Pr), ps[i]? = some x ∧ idxP ps k = i ∧ xxq ps k = some x.2) ∨ (idxP ps k = -1 ∧ xxq ps k = none)
  | [] => .inr ⟨rfl, rfl⟩
  | p :: ps => by
    by_cases e : p.1 = k
    · refine .inl ⟨0, p, rfl, ?_, ?_⟩
      · simp [idxP, List.findIdx?_cons, e]
      · simp [xxq, e]
    · rcases idx_find k ps with ⟨i, x, h1, h2, h3⟩ | ⟨h1, h2⟩
      · refine .inl ⟨i + 1, x, by simpa using h1, ?_, ?_⟩
        · unfold idxP at h2 ⊢
          rw [List.findIdx?_cons]
          simp only [e, decide_false, Bool.false_eq_true, if_false]
          cases hq : ps.findIdx? (fun p => decide (p.1 = k)) with
          | none => rw [hq] at h2; exfalso; simp only at h2; omega
          | some j => rw [hq] at h2; simp only [Option.map_some] at h2 ⊢; omega
        · rw [← h3]; simp [xxq, e]
      · refine .inr ⟨?_, ?_⟩
        · unfold idxP at h1 ⊢
          rw [List.findIdx?_cons]
          simp only [e, decide_false, Bool.false_eq_true, if_false]
          cases hq : ps.findIdx? (fun p => decide (p.1 = k)) with
          | none => rfl
          | some j => rw [hq] at h1; simp only at h1; omega
        · rw [← h2]; simp [xxq, e]
def inA (ps : List Pr) (k : Dig) : Acct := match xxq ps k with
  | some v => (qhq v).1
  | none => .zero
theorem rin_s (ps : List Pr) (f : Bool) (k : Dig) (hb : ps.length ≤ 1000000000) : PS cfg G 38 [.fz (ps.map pW) 33 f, dW k] (aW (inA ps k)) := by
  rcases idx_find k ps with ⟨i, x, q1, q2, q3⟩ | ⟨q1, q2⟩
  · have e : inA ps k = (qhq x.2).1 := by unfold inA; rw [q3]
    have hi := (List.getElem?_eq_some_iff.1 q1).1
    rw [e]
    refine ynq (fn := Try.f38) rfl rfl rfl (Nat.le_of_ble_eq_true rfl) (fun R k0 => ?_)
    refine zcq (zbq (zdq rfl rfl (zdq rfl rfl (zeq ?_))))
    refine zfq (zcq (zbq (zaq rfl rfl (zdq rfl rfl (zsq rfl rfl rfl rfl rfl rfl (yXq (w' := .int .i64 (i : Int)) (rfind_s ps f k hb) (by rw [q2])) ?_)))))
    refine zaq rfl rfl (zeq ?_)
    refine zfq (zcq (zcq (zbq (zaq rfl rfl (zEq rfl rfl ?_)))))
    refine zeq ?_
    refine zfq ?_
    refine zHq rfl (fun h1 => ?_) (fun h1 => ?_)
    · exfalso; omega
    · refine ziq (zfq (zcq (zbq (zaq rfl rfl (zaq rfl rfl (zaq rfl (z8q (i := i) rfl rfl rfl rfl rfl rfl rfl (yKq pW q1)) (zaq rfl rfl (zdq rfl rfl (zsq rfl rfl rfl rfl rfl rfl (Yjq _ _) ?_)))))))))
      refine zaq rfl rfl (zaq rfl rfl (zaq rfl rfl (zdq rfl rfl (zdq rfl rfl (zaq rfl rfl (zeq ?_))))))
      refine zfq (zcq (zbq (zdq rfl rfl (zdq rfl rfl (zeq ?_)))))
      refine zfq (zjq ?_)
      exact znq (.inr rfl) rfl rfl
  · have e : inA ps k = .zero := by unfold inA; rw [q2]
    rw [e]
    refine ynq (fn := Try.f38) rfl rfl rfl (Nat.le_of_ble_eq_true rfl) (fun R k0 => ?_)
    refine zcq (zbq (zdq rfl rfl (zdq rfl rfl (zeq ?_))))
    refine zfq (zcq (zbq (zaq rfl rfl (zdq rfl rfl (zsq rfl rfl rfl rfl rfl rfl (yXq (w' := .int .i64 (-1)) (rfind_s ps f k hb) (by rw [q1])) ?_)))))
    refine zaq rfl rfl (zeq ?_)
    refine zfq (zcq (zcq (zbq (zaq rfl rfl (zEq rfl rfl ?_)))))
    refine zeq ?_
    refine zfq ?_
    refine zHq rfl (fun h1 => ?_) (fun h1 => ?_)
    · refine zcq (zbq (zaq rfl rfl (zdq rfl rfl (zeq ?_))))
      refine zfq (zjq ?_)
      refine zlq (by intro h; cases h) ?_
      exact znq (.inr rfl) rfl rfl
    · exfalso; omega
end Go.Proofs.Ytgeelfdgnehdnaa
namespace Go.Proofs.Ytgeelfdgnehdnaa
open Go.RowKit
set_option linter.unusedSimpArgs false
set_option linter.unusedVariables false
attribute [local irreducible] CoW OpW FlW Step Spec
variable {G : Nat → Option W}
theorem acct_in {t : Tree} {n : Nat} {t0 : T} (h : IsT t n t0) (k : Dig) : uXq t0 k = inA t0.all k := by
  unfold uXq inA
  rw [kNq k j2q h.ok]
  cases xxq t0.all k <;> rfl
theorem IsT.le {t : Tree} {n : Nat} {t0 : T} (h : IsT t n t0) : t0.all.length ≤ 262144 := Nat.le_trans h.all_le h.len
theorem IsT.vle {t : Tree} {n : Nat} {t0 : T} (h : IsT t n t0) : ∀ x ∈ t0.all, x.2.length ≤ 70368744177664 := fun x hx => by have := (h.val x hx).2; omega
theorem raget_s (t : Tree) (n : Nat) (t0 : T) (h : IsA t n t0) (k : Dig) : PS cfg G 14 [tW t, dW k] (.tup [aW (uXq t0 k), .int .i64 0]) := by
  have hl := h.toIsT.le
  have yes : MayA t := ⟨n, t0, h⟩
  have hb := h.len
  rw [acct_in h.toIsT]
  refine xbq (fn := Try.f14) rfl rfl rfl (Nat.le_of_ble_eq_true rfl) (fun R k0 => ?_)
  refine zcq (zbq (zdq rfl rfl (zdq rfl rfl (zdq rfl rfl (zaq rfl rfl (zeq ?_))))))
  refine zfq (zcq (zcq (zbq (zdq rfl rfl (zsq rfl rfl rfl rfl rfl rfl (yXq (w' := .bool true) (kFq t (by omega)) (by rw [decide_eq_true yes])) ?_)))))
  refine zaq rfl rfl (zeq ?_)
  refine zfq (zCq rfl (ziq (zfq (zcq (z0q (zGq rfl rfl ?_))))))
  refine qKq rfl rfl rfl rfl rfl rfl (rall_s t n t0 h.toIsT) ?_
  refine zGq rfl rfl ?_
  refine qKq rfl rfl rfl rfl rfl rfl (rin_s _ _ _ (by omega)) ?_
  refine zGq rfl rfl ?_
  refine zhq rfl rfl (z9q ?_)
  refine zfq (zjq ?_)
  refine kPq (by first | exact .inr rfl | exact .inl rfl) rfl ?_
  (repeat (first | exact .nil | refine .cons ?_ ?_ | exact qiq | exact .nilfz | refine .fn ?_ ?_ | (refine y7q rfl ?_ rfl; (first | rfl | (focus (simp; done)))) | (refine .sl rfl ?_ rfl (by intro h; cases h); (first | rfl | (focus (simp; done)))) | (refine .pur ?_; (first | rfl | (focus (simp; done)))) | (refine .fzw ?_; (first | rfl | (focus (simp; done)))) | refine .agg ?_ | refine .arr ?_ | refine .tup ?_))
theorem raget_no (t : Tree) (hb : t.nodes.length ≤ 4611686018427387903) (h : ¬ MayA t) (k : Dig) : PS cfg G 14 [tW t, dW k] (.tup [aW .zero, .int .i64 8]) := by
  refine xbq (fn := Try.f14) rfl rfl rfl (Nat.le_of_ble_eq_true rfl) (fun R k0 => ?_)
  refine zcq (zbq (zdq rfl rfl (zdq rfl rfl (zdq rfl rfl (zaq rfl rfl (zeq ?_))))))
  refine zfq (zcq (zcq (zbq (zdq rfl rfl (zsq rfl rfl rfl rfl rfl rfl (yXq (w' := .bool false) (kFq t hb) (by rw [decide_eq_false h])) ?_)))))
  refine zaq rfl rfl (zeq ?_)
  refine zfq (zQq rfl (zcq (zbq (zaq rfl rfl (zdq rfl rfl (zaq rfl rfl (zeq ?_)))))))
  refine zfq (zjq ?_)
  refine zlq (by intro h; cases h) ?_
  refine kPq (by first | exact .inr rfl | exact .inl rfl) rfl ?_
  (repeat (first | exact .nil | refine .cons ?_ ?_ | exact qiq | exact .nilfz | refine .fn ?_ ?_ | (refine y7q rfl ?_ rfl; (first | rfl | (focus (simp; done)))) | (refine .sl rfl ?_ rfl (by intro h; cases h); (first | rfl | (focus (simp; done)))) | (refine .pur ?_; (first | rfl | (focus (simp; done)))) | (refine .fzw ?_; (first | rfl | (focus (simp; done)))) | refine .agg ?_ | refine .arr ?_ | refine .tup ?_))
noncomputable def withA (ps : List Pr) (k : Dig) (a : Acct) : List Pr := if a = .zero then yeq ps k else withR ps k (qyq a)
theorem withA_set {l : List Pr} (h : Srt l) (k : Dig) (a : Acct) : withA l k a = setL l k a := by
  unfold withA setL
  rw [withR_eq h]
theorem acct_zero {a : Acct} : a = .zero ↔ a.nonce = 0 ∧ a.balance = 0 := by cases a; simp [Acct.zero]
theorem Yiq (ps : List Pr) (f : Bool) (k : Dig) (a : Acct) (ha : a.ok) (hb : ps.length ≤ 1000000) (hv : ∀ x ∈ ps, x.2.length ≤ 70368744177664) : PS cfg G 40 [.fz (ps.map pW) 33 f, dW k, aW a] (psW (withA ps k a)) := by
  have lb := ZZq a
  refine ynq (fn := Try.f40) rfl rfl rfl (Nat.le_of_ble_eq_true rfl) (fun R k0 => ?_)
  refine zcq (zbq (zdq rfl rfl (zdq rfl rfl (zaq rfl rfl (zeq ?_)))))
  refine zfq (zcq (zcq (zbq (zaq rfl rfl (zdq rfl rfl ?_)))))
  refine yYq rfl rfl (fun h1 => ?_) (fun h1 => ?_)
  · refine zaq rfl rfl (zaq rfl rfl (zdq rfl rfl (zEq rfl rfl ?_)))
    refine zaq rfl rfl (zeq ?_)
    refine zfq ?_
    refine zHq rfl (fun h2 => ?_) (fun h2 => ?_)
    · have hz : a = .zero := acct_zero.2 ⟨by omega, by omega⟩
      refine zcq (zbq (zaq rfl rfl (zdq rfl rfl (zsq rfl rfl rfl rfl rfl rfl (ZCq ps f k (by omega) hv) ?_))))
      refine zaq rfl rfl (zeq ?_)
      refine zfq (zjq ?_)
      refine zlq (by intro h; cases h) ?_
      exact znq (.inr rfl) rfl (by unfold withA; rw [if_pos hz])
    · have hz : ¬ a = .zero := fun q => by have := acct_zero.1 q; omega
      refine ziq (zfq (zcq (z0q (zhq rfl rfl (zGq rfl rfl ?_)))))
      refine zGq rfl rfl ?_
      refine qKq rfl rfl rfl rfl rfl rfl (rabytes_s _ (by assumption)) ?_
      refine qKq rfl rfl rfl rfl rfl rfl (rwith_s ps f false k (qyq a) hb hv (by omega)) ?_
      refine zhq rfl rfl (z9q ?_)
      refine zfq (zjq ?_)
      exact znq (.inr rfl) rfl (by unfold withA; rw [if_neg hz])
  · have hz : ¬ a = .zero := fun q => by have := acct_zero.1 q; omega
    refine zaq rfl rfl (zgq rfl (zgq rfl (zgq rfl (zaq rfl rfl (zeq ?_)))))
    refine zfq (zCq rfl (ziq (zfq (zcq (z0q (zhq rfl rfl (zGq rfl rfl ?_)))))))
    refine zGq rfl rfl ?_
    refine qKq rfl rfl rfl rfl rfl rfl (rabytes_s _ (by assumption)) ?_
    refine qKq rfl rfl rfl rfl rfl rfl (rwith_s ps f false k (qyq a) hb hv (by omega)) ?_
    refine zhq rfl rfl (z9q ?_)
    refine zfq (zjq ?_)
    exact znq (.inr rfl) rfl (by unfold withA; rw [if_neg hz])
theorem raset_no (t : Tree) (hb : t.nodes.length ≤ 4611686018427387903) (h : ¬ MayA t) (k : Dig) (a : Acct) : PS cfg G 15 [tW t, dW k, aW a] (.tup [.nils, .int .i64 8]) := by
  refine ynq (fn := Try.f15) rfl rfl rfl (Nat.le_of_ble_eq_true rfl) (fun R k0 => ?_)
  refine zcq (zbq (zdq rfl rfl (zdq rfl rfl (zdq rfl rfl (zaq rfl rfl (zaq rfl rfl (zeq ?_)))))))
  refine zfq (zcq (zcq (zbq (zdq rfl rfl (zsq rfl rfl rfl rfl rfl rfl (yXq (w' := .bool false) (kFq t hb) (by rw [decide_eq_false h])) ?_)))))
  refine zaq rfl rfl (zeq ?_)
  refine zfq (zQq rfl (zcq (zbq (zaq rfl rfl (zaq rfl rfl (zeq ?_))))))
  refine zfq (zjq ?_)
  refine zlq (by intro h; cases h) ?_
  exact znq (.inr rfl) rfl rfl
theorem raset_s (t : Tree) (n : Nat) (t0 : T) (k : Dig) (a : Acct) (h : IsA t n t0) (ha : a.ok) (hl : t.nodes.length ≤ 261844) : PS cfg G 15 [tW t, dW k, aW a] (.tup [psW (setL t0.all k a), .int .i64 0]) := by
  have e : (t.nodes.map nW).length = t.nodes.length := List.length_map _
  have hle := h.toIsT.le
  have hvle := h.toIsT.vle
  have yes : MayA t := ⟨n, t0, h⟩
  rw [← withA_set h.toIsT.srt]
  refine ynq (fn := Try.f15) rfl rfl rfl (Nat.le_of_ble_eq_true rfl) (fun R k0 => ?_)
  refine zcq (zbq (zdq rfl rfl (zdq rfl rfl (zdq rfl rfl (zaq rfl rfl (zaq rfl rfl (zeq ?_)))))))
  refine zfq (zcq (zcq (zbq (zdq rfl rfl (zsq rfl rfl rfl rfl rfl rfl (yXq (w' := .bool true) (kFq t (by omega)) (by rw [decide_eq_true yes])) ?_)))))
  refine zaq rfl rfl (zeq ?_)
  refine zfq (zCq rfl (ziq (zfq (zcq (zbq (zdq rfl rfl (zsq rfl rfl rfl rfl rfl rfl (rall_s t n t0 h.toIsT) ?_)))))))
  refine zaq rfl rfl (zeq ?_)
  refine zfq (zcq (zbq (zaq rfl rfl (zdq rfl rfl ?_))))
  refine yYq rfl rfl (fun h1 => ?_) (fun h1 => ?_)
  · refine zaq rfl rfl (zaq rfl rfl (zdq rfl rfl ?_))
    refine yYq rfl rfl (fun h2 => ?_) (fun h2 => ?_)
    · refine zaq rfl rfl (zaq rfl rfl (zeq ?_))
      refine zfq (zcq (zcq (zbq (zaq rfl rfl (zdq rfl rfl (zXq (w' := .int .i64 (t.nodes.length : Int)) rfl rfl (by rw [← e]; rfl) ?_))))))
      refine yYq rfl rfl (fun h3 => ?_) (fun h3 => ?_)
      · exfalso; omega
      · refine zaq rfl rfl (zgq rfl (zgq rfl (zgq rfl (zgq rfl (zgq rfl (zgq rfl (zgq rfl (zgq rfl (zaq rfl rfl (zeq ?_))))))))))
        refine zfq (zCq rfl (ziq (zfq (zcq (zbq (zaq rfl rfl (zdq rfl rfl (zdq rfl rfl (zsq rfl rfl rfl rfl rfl rfl (Yiq t0.all false k a ha (by omega) hvle) ?_)))))))))
        refine zaq rfl rfl (zaq rfl rfl (zeq ?_))
        refine zfq (zjq ?_)
        exact znq (.inr rfl) rfl rfl
    · refine zaq rfl rfl (zaq rfl rfl (zeq ?_))
      refine zfq (zcq (zcq (zbq (zaq rfl rfl (zdq rfl rfl (zXq (w' := .int .i64 (t.nodes.length : Int)) rfl rfl (by rw [← e]; rfl) ?_))))))
      refine yYq rfl rfl (fun h3 => ?_) (fun h3 => ?_)
      · exfalso; omega
      · refine zaq rfl rfl (zgq rfl (zgq rfl (zgq rfl (zgq rfl (zgq rfl (zgq rfl (zgq rfl (zgq rfl (zaq rfl rfl (zeq ?_))))))))))
        refine zfq (zCq rfl (ziq (zfq (zcq (zbq (zaq rfl rfl (zdq rfl rfl (zdq rfl rfl (zsq rfl rfl rfl rfl rfl rfl (Yiq t0.all false k a ha (by omega) hvle) ?_)))))))))
        refine zaq rfl rfl (zaq rfl rfl (zeq ?_))
        refine zfq (zjq ?_)
        exact znq (.inr rfl) rfl rfl
  · refine zaq rfl rfl (zgq rfl (zgq rfl (zgq rfl (zaq rfl rfl (zaq rfl rfl (zeq ?_))))))
    refine zfq (zcq (zcq (zbq (zaq rfl rfl (zdq rfl rfl (zXq (w' := .int .i64 (t.nodes.length : Int)) rfl rfl (by rw [← e]; rfl) ?_))))))
    refine yYq rfl rfl (fun h2 => ?_) (fun h2 => ?_)
    · exfalso; omega
    · refine zaq rfl rfl (zgq rfl (zgq rfl (zgq rfl (zgq rfl (zgq rfl (zgq rfl (zgq rfl (zgq rfl (zaq rfl rfl (zeq ?_))))))))))
      refine zfq (zCq rfl (ziq (zfq (zcq (zbq (zaq rfl rfl (zdq rfl rfl (zdq rfl rfl (zsq rfl rfl rfl rfl rfl rfl (Yiq t0.all false k a ha (by omega) hvle) ?_)))))))))
      refine zaq rfl rfl (zaq rfl rfl (zeq ?_))
      refine zfq (zjq ?_)
      exact znq (.inr rfl) rfl rfl
theorem wrap_add (s b : Nat) : j4q .u64 (((s % 18446744073709551616 : Nat) : Int) + (b : Int)) = (((s + b) % 18446744073709551616 : Nat) : Int) := by
  rw [show (((s % 18446744073709551616 : Nat) : Int) + (b : Int)) = ((s % 18446744073709551616 + b : Nat) : Int) by omega]
  show (((s % 18446744073709551616 + b) % 18446744073709551616 : Nat) : Int) = _
  omega
theorem rasum_s (ps : List Pr) (f : Bool) (hb : ps.length ≤ 1000000) : PS cfg G 43 [.fz (ps.map pW) 33 f] (.tup [.int .u64 ((sumB ps / 18446744073709551616 : Nat) : Int), .int .u64 ((sumB ps % 18446744073709551616 : Nat) : Int)]) := by
  have e : (ps.map pW).length = ps.length := List.length_map _
  refine ynq (fn := Try.f43) rfl rfl rfl (Nat.le_of_ble_eq_true rfl) (fun R k0 => ?_)
  refine zcq (zbq (zaq rfl rfl (zaq rfl rfl (zeq ?_))))
  refine zfq (zcq (zbq (zaq rfl rfl (zaq rfl rfl (zeq ?_)))))
  refine zfq (zcq (zcq (zbq (zaq rfl rfl (zeq ?_)))))
  refine zfq (zmq ?_)
  refine ySq (α := Nat × Nat) (fun p => p.1 ≤ ps.length ∧ p.2 = sumB (ps.take p.1)) (fun p => [(6, .int .i64 (p.1 : Int)), (4, .int .u64 ((p.2 / 18446744073709551616 : Nat) : Int)), (5, .int .u64 ((p.2 % 18446744073709551616 : Nat) : Int))]) [(0, _), (2, _), (3, _)] (fun p => ps.length - p.1) ((0, 0)) ⟨rfl, rfl, rfl, trivial⟩ (⟨Nat.zero_le _, rfl⟩) ⟨rfl, rfl, rfl, trivial⟩ (fun p hI => ?_)
  obtain ⟨i, s⟩ := p
  obtain ⟨g1, g2⟩ := hI
  simp only at g1 g2 ⊢
  have hsl := sumB_lt (ps.take i)
  have hs2 : s ≤ 1000000 * 18446744073709551615 := by
    rw [g2]
    refine Nat.le_trans hsl (Nat.mul_le_mul_right _ ?_)
    simp; omega
  refine zcq (zcq (zbq (zaq rfl rfl (zaq rfl rfl (zXq (w' := .int .i64 (ps.length : Int)) rfl rfl (by rw [← e]; rfl) ?_)))))
  refine zEq rfl rfl ?_
  refine zeq ?_
  refine zfq ?_
  refine zHq rfl (fun h1 => ?_) (fun h1 => ?_)
  · have hi : i < ps.length := by omega
    obtain ⟨x, hx⟩ : ∃ x, ps[i]? = some x := ⟨_, List.getElem?_eq_getElem hi⟩
    have hbal := bal_lt x
    have ht := sumB_take hx
    rw [← g2] at ht
    refine ziq (zfq (zcq (zmq (zcq (zbq (zaq rfl rfl (zaq rfl rfl (zaq rfl (z8q (i := i) rfl rfl rfl rfl rfl rfl rfl (yKq pW hx)) (zaq rfl rfl (zdq rfl rfl (zsq rfl rfl rfl rfl rfl rfl (Yjq _ _) ?_)))))))))))
    refine zaq rfl rfl (zaq rfl rfl (zaq rfl rfl (zdq rfl rfl (zdq rfl rfl (zaq rfl rfl (zeq ?_))))))
    refine zfq (zcq (zcq (zbq (zaq rfl rfl (zdq rfl rfl (zaq rfl rfl (zAq (18446744073709551615 - s % 18446744073709551616) rfl rfl (by first | rfl | omega) ⟨by omega, by omega⟩ ?_)))))))
    refine zEq rfl rfl ?_
    refine zeq ?_
    refine zfq ?_
    refine zHq rfl (fun h2 => ?_) (fun h2 => ?_)
    · have h2 : ((18446744073709551615 - s % 18446744073709551616 : Nat) : Int) < (bal x : Int) := h2
      refine zbq (zaq rfl rfl (zAq ((s + bal x) / 18446744073709551616) rfl rfl (by first | rfl | omega) ⟨by omega, by omega⟩ ?_))
      refine zaq rfl rfl (zeq ?_)
      refine zfq (zbq (zaq rfl rfl (zaq rfl rfl (zdq rfl rfl (zXq (w' := .int .u64 (((s + bal x) % 18446744073709551616 : Nat) : Int)) rfl rfl (congrArg (W.int .u64) (wrap_add s (bal x))) (zaq rfl rfl (zeq ?_)))))))
      refine ztq (by intro i h; cases h) ?_
      refine zfq (zbq (zaq rfl rfl (zAq (i + 1) rfl rfl (by first | rfl | omega) ⟨by omega, by omega⟩ ?_)))
      refine zaq rfl rfl (zeq ?_)
      exact yjq ((i + 1, s + bal x)) (⟨hi, ht.symm⟩) (by simp only; omega) ⟨rfl, rfl, rfl, trivial⟩ ⟨rfl, rfl, rfl, trivial⟩ (by repeat (first | exact trivial | refine ⟨by first | rfl | exact zyq (by first | rfl | (simp; done)), ?_⟩)) (by omega) (by repeat (first | exact zMq | refine zPq (by omega) ?_ | refine zNq (by omega) ?_ | refine zOq (by omega) ?_)) rfl
    · have h2 : ¬ ((18446744073709551615 - s % 18446744073709551616 : Nat) : Int) < (bal x : Int) := h2
      have hd : s / 18446744073709551616 = (s + bal x) / 18446744073709551616 := by omega
      rw [hd]
      refine ziq (zfq (zbq (zaq rfl rfl (zaq rfl rfl (zdq rfl rfl (zXq (w' := .int .u64 (((s + bal x) % 18446744073709551616 : Nat) : Int)) rfl rfl (congrArg (W.int .u64) (wrap_add s (bal x))) (zaq rfl rfl (zeq ?_))))))))
      refine ztq (by intro i h; cases h) ?_
      refine zfq (zbq (zaq rfl rfl (zAq (i + 1) rfl rfl (by first | rfl | omega) ⟨by omega, by omega⟩ ?_)))
      refine zaq rfl rfl (zeq ?_)
      exact yjq ((i + 1, s + bal x)) (⟨hi, ht.symm⟩) (by simp only; omega) ⟨rfl, rfl, rfl, trivial⟩ ⟨rfl, rfl, rfl, trivial⟩ (by repeat (first | exact trivial | refine ⟨by first | rfl | exact zyq (by first | rfl | (simp; done)), ?_⟩)) (by omega) (by repeat (first | exact zMq | refine zPq (by omega) ?_ | refine zNq (by omega) ?_ | refine zOq (by omega) ?_)) rfl
  · have hi : i = ps.length := by omega
    subst hi
    rw [List.take_length] at g2
    refine ytq ?_
    refine zlq (by intro h; cases h) ?_
    refine ykq (by intro h; cases h) ?_
    refine qpq (zfq (zcq (zbq (zaq rfl rfl (zaq rfl rfl (zaq rfl rfl (zaq rfl rfl (zeq ?_))))))))
    refine zfq (zjq ?_)
    exact znq (.inr rfl) rfl (by rw [g2])
theorem ratotal_no (t : Tree) (hb : t.nodes.length ≤ 4611686018427387903) (h : ¬ MayA t) : PS cfg G 17 [tW t] (.tup [.int .u64 ((0 : Nat) : Int), .int .u64 ((0 : Nat) : Int), .int .i64 8]) := by
  refine ynq (fn := Try.f17) rfl rfl rfl (Nat.le_of_ble_eq_true rfl) (fun R k0 => ?_)
  refine zcq (zbq (zdq rfl rfl (zaq rfl rfl (zaq rfl rfl (zaq rfl rfl (zeq ?_))))))
  refine zfq (zcq (zcq (zbq (zdq rfl rfl (zsq rfl rfl rfl rfl rfl rfl (yXq (w' := .bool false) (kFq t hb) (by rw [decide_eq_false h])) ?_)))))
  refine zaq rfl rfl (zeq ?_)
  refine zfq (zQq rfl (zcq (zbq (zaq rfl rfl (zaq rfl rfl (zaq rfl rfl (zeq ?_)))))))
  refine zfq (zjq ?_)
  refine zlq (by intro h; cases h) ?_
  exact znq (.inr rfl) rfl rfl
theorem ratotal_s (t : Tree) (n : Nat) (t0 : T) (h : IsA t n t0) : PS cfg G 17 [tW t] (.tup [.int .u64 ((sumB t0.all / 18446744073709551616 : Nat) : Int), .int .u64 ((sumB t0.all % 18446744073709551616 : Nat) : Int), .int .i64 0]) := by
  have hle := h.toIsT.le
  have hb := h.len
  have yes : MayA t := ⟨n, t0, h⟩
  refine ynq (fn := Try.f17) rfl rfl rfl (Nat.le_of_ble_eq_true rfl) (fun R k0 => ?_)
  refine zcq (zbq (zdq rfl rfl (zaq rfl rfl (zaq rfl rfl (zaq rfl rfl (zeq ?_))))))
  refine zfq (zcq (zcq (zbq (zdq rfl rfl (zsq rfl rfl rfl rfl rfl rfl (yXq (w' := .bool true) (kFq t (by omega)) (by rw [decide_eq_true yes])) ?_)))))
  refine zaq rfl rfl (zeq ?_)
  refine zfq (zCq rfl (ziq (zfq (zcq (zbq (zdq rfl rfl (zsq rfl rfl rfl rfl rfl rfl (rall_s t n t0 h.toIsT) ?_)))))))
  refine zsq rfl rfl rfl rfl rfl rfl (rasum_s t0.all false (by omega)) ?_
  refine zaq rfl rfl (zaq rfl rfl (zaq rfl rfl (zaq rfl rfl (zaq rfl rfl (zeq ?_)))))
  refine zfq (zcq (zbq (zaq rfl rfl (zaq rfl rfl (zaq rfl rfl (zaq rfl rfl (zaq rfl rfl (zeq ?_))))))))
  refine zfq (zjq ?_)
  exact znq (.inr rfl) rfl rfl
theorem racheck_s (t : Tree) (hb : t.nodes.length ≤ 4611686018427387903) : PS cfg G 18 [tW t] (.int .i64 (if MayA t then 0 else 8)) := by
  by_cases h : MayA t
  · rw [if_pos h]
    refine ynq (fn := Try.f18) rfl rfl rfl (Nat.le_of_ble_eq_true rfl) (fun R k0 => ?_)
    refine zcq (zbq (zdq rfl rfl (zaq rfl rfl (zeq ?_))))
    refine zfq (zcq (zcq (zbq (zdq rfl rfl (zsq rfl rfl rfl rfl rfl rfl (yXq (w' := .bool true) (kFq t hb) (by rw [decide_eq_true h])) ?_)))))
    refine zaq rfl rfl (zeq ?_)
    refine zfq (zCq rfl (ziq (zfq (zcq (zbq (zaq rfl rfl (zeq ?_)))))))
    refine zfq (zjq ?_)
    exact znq (.inr rfl) rfl rfl
  · rw [if_neg h]
    refine ynq (fn := Try.f18) rfl rfl rfl (Nat.le_of_ble_eq_true rfl) (fun R k0 => ?_)
    refine zcq (zbq (zdq rfl rfl (zaq rfl rfl (zeq ?_))))
    refine zfq (zcq (zcq (zbq (zdq rfl rfl (zsq rfl rfl rfl rfl rfl rfl (yXq (w' := .bool false) (kFq t hb) (by rw [decide_eq_false h])) ?_)))))
    refine zaq rfl rfl (zeq ?_)
    refine zfq (zQq rfl (zcq (zbq (zaq rfl rfl (zeq ?_)))))
    refine zfq (zjq ?_)
    refine zlq (by intro h; cases h) ?_
    exact znq (.inr rfl) rfl rfl
end Go.Proofs.Ytgeelfdgnehdnaa
namespace Go.Proofs.Ytgeelfdgnehdnaa
open Go.RowKit
set_option linter.unusedSimpArgs false
set_option linter.unusedVariables false
attribute [local irreducible] CoW OpW FlW Step Spec
variable {G : Nat → Option W}
theorem great_no {t : Tree} (h : ¬ Z6q t 600) : t.nodes.length ≤ 600 ∧ ∀ x ∈ t.nodes, x.val.length ≤ 100 := by
  have h1 : t.nodes.length ≤ 600 := Nat.le_of_not_lt fun q => h (.inl q)
  refine ⟨h1, fun x hx => ?_⟩
  obtain ⟨i, hi⟩ := List.getElem?_of_mem hx
  have := (List.getElem?_eq_some_iff.1 hi).1
  exact Nat.le_of_not_lt fun q => h (.inr ⟨i, x, by omega, hi, q⟩)
theorem does_s (t : Tree) (k : Dig) (a : Acct) (ha : a.ok) (hb : t.nodes.length ≤ 4611686018427387903) : PS cfg G 4 [tW t, dW k, aW a] (.bool true) := by
  by_cases hg : Z6q t 600
  · skip
    refine ynq (fn := Try.f4) rfl rfl rfl (Nat.le_of_ble_eq_true rfl) (fun R k0 => ?_)
    refine zcq (zbq (zdq rfl rfl (zdq rfl rfl (zdq rfl rfl (zaq rfl rfl (zeq ?_))))))
    refine zfq (zcq (zcq (zbq (zdq rfl rfl (zsq rfl rfl rfl rfl rfl rfl (yXq (w' := .bool true) (great_s t 600 hb (by omega)) (by rw [decide_eq_true hg])) ?_)))))
    refine zeq ?_
    refine zfq (zQq rfl (zcq (zbq (zaq rfl rfl (zeq ?_)))))
    refine zfq (zjq ?_)
    refine zlq (by intro h; cases h) ?_
    exact znq (.inr rfl) rfl rfl
  obtain ⟨hn, hx⟩ := great_no hg
  have hv : ∀ x ∈ t.nodes, x.val.length ≤ 70368744177664 := fun x h => by have := hx x h; omega
  by_cases hA : MayA t
  · have hA' := hA
    obtain ⟨n, t0, h⟩ := hA'
    refine ynq (fn := Try.f4) rfl rfl rfl (Nat.le_of_ble_eq_true rfl) (fun R k0 => ?_)
    refine zcq (zbq (zdq rfl rfl (zdq rfl rfl (zdq rfl rfl (zaq rfl rfl (zeq ?_))))))
    refine zfq (zcq (zcq (zbq (zdq rfl rfl (zsq rfl rfl rfl rfl rfl rfl (yXq (w' := .bool false) (great_s t 600 hb (by omega)) (by rw [decide_eq_false hg])) ?_)))))
    refine zeq ?_
    refine zfq (zCq rfl (ziq (zfq (zcq (zbq (zdq rfl rfl (zsq rfl rfl rfl rfl rfl rfl (rttwin_s t (by omega) hv) ?_)))))))
    refine zdq rfl rfl (zdq rfl rfl (zeq ?_))
    refine zfq (zcq (zbq (zdq rfl rfl (zdq rfl rfl (zsq rfl rfl rfl rfl rfl rfl (aget_s t n t0 h k) ?_)))))
    refine zaq rfl rfl (zaq rfl rfl (zaq rfl rfl (zdq rfl rfl (zdq rfl rfl (zaq rfl rfl (zeq ?_))))))
    refine zfq (zcq (zbq (zdq rfl rfl (zdq rfl rfl (zsq rfl rfl rfl rfl rfl rfl (raget_s t n t0 h k) ?_)))))
    refine zaq rfl rfl (zaq rfl rfl (zaq rfl rfl (zdq rfl rfl (zdq rfl rfl (zaq rfl rfl (zeq ?_))))))
    refine zfq (zcq (zbq (zdq rfl rfl (zdq rfl rfl (zdq rfl rfl ?_)))))
    ((refine z3q rfl (step_pe rfl rfl rfl rfl rfl (aset_s t n t0 k a h ha (by omega)) (by simp) ?_); rintro w hw ⟨t', n', t1, ht', hall, rfl⟩))
    refine zaq rfl rfl (zaq rfl rfl (zaq rfl rfl (zdq rfl rfl (zdq rfl rfl (zaq rfl rfl (zeq ?_))))))
    refine zfq (zcq (zbq (zdq rfl rfl (zdq rfl rfl (zdq rfl rfl (zsq rfl rfl rfl rfl rfl rfl (raset_s t n t0 k a h ha (by omega)) ?_))))))
    refine zaq rfl rfl (zaq rfl rfl (zaq rfl rfl (zaq rfl rfl (zaq rfl rfl (zeq ?_)))))
    refine zfq (zcq (zbq (zdq rfl rfl (zsq rfl rfl rfl rfl rfl rfl (atotal_s t n t0 h) ?_))))
    refine zaq rfl rfl (zaq rfl rfl (zaq rfl rfl (zaq rfl rfl (zaq rfl rfl (zaq rfl rfl (zaq rfl rfl (zeq ?_)))))))
    refine zfq (zcq (zbq (zdq rfl rfl (zsq rfl rfl rfl rfl rfl rfl (ratotal_s t n t0 h) ?_))))
    refine zaq rfl rfl (zaq rfl rfl (zaq rfl rfl (zaq rfl rfl (zaq rfl rfl (zaq rfl rfl (zaq rfl rfl (zeq ?_)))))))
    refine zfq (zcq (z0q (zGq rfl rfl ?_)))
    refine zGq rfl rfl ?_
    refine qXq (w' := .bool true) rfl (qbq rfl rfl rfl rfl (uwq _ _)) (by simp) ?_
    refine zhq rfl rfl (zhq rfl rfl (zhq rfl rfl (qXq (w' := .bool true) rfl rfl (congrArg W.bool (by first | rfl | exact eqI_iff.2 rfl | (simp; done) | decide | (simp [ltI_iff, eqI_iff]; done))) ?_)))
    refine zhq rfl rfl (zhq rfl rfl (zhq rfl rfl (zhq rfl rfl (qXq (w' := .bool true) rfl rfl (congrArg W.bool (by first | rfl | exact eqI_iff.2 rfl | (simp; done) | decide | (simp [ltI_iff, eqI_iff]; done))) ?_))))
    refine zhq rfl rfl (zhq rfl rfl (zhq rfl rfl (zhq rfl rfl (qXq (w' := .bool true) rfl rfl (congrArg W.bool (by first | rfl | exact eqI_iff.2 rfl | (simp; done) | decide | (simp [ltI_iff, eqI_iff]; done))) ?_))))
    refine zhq rfl rfl (zhq rfl rfl (zhq rfl rfl (zhq rfl rfl (qXq (w' := .bool true) rfl rfl (congrArg W.bool (by first | rfl | exact eqI_iff.2 rfl | (simp; done) | decide | (simp [ltI_iff, eqI_iff]; done))) ?_))))
    refine zhq rfl rfl (zhq rfl rfl (zhq rfl rfl (zhq rfl rfl (qXq (w' := .bool true) rfl rfl (congrArg W.bool (by first | rfl | exact eqI_iff.2 rfl | (simp; done) | decide | (simp [ltI_iff, eqI_iff]; done))) ?_))))
    refine zhq rfl rfl (zhq rfl rfl (zGq rfl rfl ?_))
    refine qKq rfl rfl rfl rfl rfl rfl (yXq (w' := .int .i64 0) (qqq t hb) (by rw [if_pos hA])) ?_
    refine zGq rfl rfl ?_
    refine qKq rfl rfl rfl rfl rfl rfl (yXq (w' := .int .i64 0) (racheck_s t hb) (by rw [if_pos hA])) ?_
    refine qXq (w' := .bool true) rfl rfl (congrArg W.bool (by first | rfl | exact eqI_iff.2 rfl | (simp; done) | decide | (simp [ltI_iff, eqI_iff]; done))) ?_
    refine zhq rfl rfl (zhq rfl rfl (z9q ?_))
    refine zfq (zcq (zbq (zaq rfl rfl (zXq (w' := .bool false) rfl rfl (congrArg W.bool (by first | rfl | exact eqI_iff.2 rfl | (simp; done) | decide | (simp [ltI_iff, eqI_iff]; done))) ?_))))
    refine zaq rfl rfl (zgq rfl (zgq rfl (zgq rfl (zgq rfl (zaq rfl rfl (zaq rfl rfl (zaq rfl rfl (zXq (w' := .bool true) rfl rfl (congrArg W.bool (by first | rfl | exact eqI_iff.2 rfl | (simp; done) | decide | (simp [ltI_iff, eqI_iff]; done))) ?_))))))))
    refine zaq rfl rfl (zdq rfl rfl (zsq rfl rfl rfl rfl rfl rfl (yXq (w' := .bool true) (rmay_s t' (by have := ht'.len; omega)) (by rw [decide_eq_true ht'.toIsT.may])) ?_))
    refine zaq rfl rfl (zaq rfl rfl (zdq rfl rfl (zsq rfl rfl rfl rfl rfl rfl (rall_s t' n' t1 ht'.toIsT) ?_)))
    refine zaq rfl rfl (zsq rfl rfl rfl rfl rfl rfl (yXq (w' := .bool true) (rpsame_s t1.all (setL t0.all k a) false false (by have := ht'.toIsT.le; omega)) (by rw [hall, decide_eq_true rfl])) ?_)
    refine zaq rfl rfl (zaq rfl rfl (zaq rfl rfl (zeq ?_)))
    refine zfq (zcq (zbq (zaq rfl rfl (zaq rfl rfl (zaq rfl rfl (zaq rfl rfl (zaq rfl rfl (zdq rfl rfl (zdq rfl rfl (zsq rfl rfl rfl rfl rfl rfl (yXq (w' := .bool true) (rtsame_s t t (by omega)) (by rw [decide_eq_true rfl])) ?_))))))))))
    refine zaq rfl rfl (zaq rfl rfl (zeq ?_))
    refine zfq (zjq ?_)
    exact znq (.inr rfl) rfl rfl
  · skip
    refine ynq (fn := Try.f4) rfl rfl rfl (Nat.le_of_ble_eq_true rfl) (fun R k0 => ?_)
    refine zcq (zbq (zdq rfl rfl (zdq rfl rfl (zdq rfl rfl (zaq rfl rfl (zeq ?_))))))
    refine zfq (zcq (zcq (zbq (zdq rfl rfl (zsq rfl rfl rfl rfl rfl rfl (yXq (w' := .bool false) (great_s t 600 hb (by omega)) (by rw [decide_eq_false hg])) ?_)))))
    refine zeq ?_
    refine zfq (zCq rfl (ziq (zfq (zcq (zbq (zdq rfl rfl (zsq rfl rfl rfl rfl rfl rfl (rttwin_s t (by omega) hv) ?_)))))))
    refine zdq rfl rfl (zdq rfl rfl (zeq ?_))
    refine zfq (zcq (zbq (zdq rfl rfl (zdq rfl rfl (zsq rfl rfl rfl rfl rfl rfl (aget_no t hb hA k) ?_)))))
    refine zaq rfl rfl (zaq rfl rfl (zaq rfl rfl (zdq rfl rfl (zdq rfl rfl (zaq rfl rfl (zeq ?_))))))
    refine zfq (zcq (zbq (zdq rfl rfl (zdq rfl rfl (zsq rfl rfl rfl rfl rfl rfl (raget_no t hb hA k) ?_)))))
    refine zaq rfl rfl (zaq rfl rfl (zaq rfl rfl (zdq rfl rfl (zdq rfl rfl (zaq rfl rfl (zeq ?_))))))
    refine zfq (zcq (zbq (zdq rfl rfl (zdq rfl rfl (zdq rfl rfl (zsq rfl rfl rfl rfl rfl rfl (aset_no t hb hA k a) ?_))))))
    refine zaq rfl rfl (zaq rfl rfl (zaq rfl rfl (zdq rfl rfl (zdq rfl rfl (zaq rfl rfl (zeq ?_))))))
    refine zfq (zcq (zbq (zdq rfl rfl (zdq rfl rfl (zdq rfl rfl (zsq rfl rfl rfl rfl rfl rfl (raset_no t hb hA k a) ?_))))))
    refine zaq rfl rfl (zaq rfl rfl (zaq rfl rfl (zaq rfl rfl (zaq rfl rfl (zeq ?_)))))
    refine zfq (zcq (zbq (zdq rfl rfl (zsq rfl rfl rfl rfl rfl rfl (atotal_no t hb hA) ?_))))
    refine zaq rfl rfl (zaq rfl rfl (zaq rfl rfl (zaq rfl rfl (zaq rfl rfl (zaq rfl rfl (zaq rfl rfl (zeq ?_)))))))
    refine zfq (zcq (zbq (zdq rfl rfl (zsq rfl rfl rfl rfl rfl rfl (ratotal_no t hb hA) ?_))))
    refine zaq rfl rfl (zaq rfl rfl (zaq rfl rfl (zaq rfl rfl (zaq rfl rfl (zaq rfl rfl (zaq rfl rfl (zeq ?_)))))))
    refine zfq (zcq (z0q (zGq rfl rfl ?_)))
    refine zGq rfl rfl ?_
    refine qXq (w' := .bool true) rfl (qbq rfl rfl rfl rfl (uwq _ _)) (by simp) ?_
    refine zhq rfl rfl (zhq rfl rfl (zhq rfl rfl (qXq (w' := .bool true) rfl rfl (congrArg W.bool (by first | rfl | exact eqI_iff.2 rfl | (simp; done) | decide | (simp [ltI_iff, eqI_iff]; done))) ?_)))
    refine zhq rfl rfl (zhq rfl rfl (zhq rfl rfl (zhq rfl rfl (qXq (w' := .bool true) rfl rfl (congrArg W.bool (by first | rfl | exact eqI_iff.2 rfl | (simp; done) | decide | (simp [ltI_iff, eqI_iff]; done))) ?_))))
    refine zhq rfl rfl (zhq rfl rfl (zhq rfl rfl (zhq rfl rfl (qXq (w' := .bool true) rfl rfl (congrArg W.bool (by first | rfl | exact eqI_iff.2 rfl | (simp; done) | decide | (simp [ltI_iff, eqI_iff]; done))) ?_))))
    refine zhq rfl rfl (zhq rfl rfl (zhq rfl rfl (zhq rfl rfl (qXq (w' := .bool true) rfl rfl (congrArg W.bool (by first | rfl | exact eqI_iff.2 rfl | (simp; done) | decide | (simp [ltI_iff, eqI_iff]; done))) ?_))))
    refine zhq rfl rfl (zhq rfl rfl (zhq rfl rfl (zhq rfl rfl (qXq (w' := .bool true) rfl rfl (congrArg W.bool (by first | rfl | exact eqI_iff.2 rfl | (simp; done) | decide | (simp [ltI_iff, eqI_iff]; done))) ?_))))
    refine zhq rfl rfl (zhq rfl rfl (zGq rfl rfl ?_))
    refine qKq rfl rfl rfl rfl rfl rfl (yXq (w' := .int .i64 8) (qqq t hb) (by rw [if_neg hA])) ?_
    refine zGq rfl rfl ?_
    refine qKq rfl rfl rfl rfl rfl rfl (yXq (w' := .int .i64 8) (racheck_s t hb) (by rw [if_neg hA])) ?_
    refine qXq (w' := .bool true) rfl rfl (congrArg W.bool (by first | rfl | exact eqI_iff.2 rfl | (simp; done) | decide | (simp [ltI_iff, eqI_iff]; done))) ?_
    refine zhq rfl rfl (zhq rfl rfl (z9q ?_))
    refine zfq (zcq (zbq (zaq rfl rfl (zXq (w' := .bool true) rfl rfl (congrArg W.bool (by first | rfl | exact eqI_iff.2 rfl | (simp; done) | decide | (simp [ltI_iff, eqI_iff]; done))) ?_))))
    refine zaq rfl rfl (zaq rfl rfl (zdq rfl rfl ?_))
    first | refine ZFq rfl rfl ?_ | refine zaq rfl rfl ?_
    refine zXq (w' := .bool true) rfl rfl (congrArg W.bool (by first | rfl | exact eqI_iff.2 rfl | (simp; done) | decide | (simp [ltI_iff, eqI_iff]; done))) ?_
    refine zaq rfl rfl (zaq rfl rfl (zgq rfl (zgq rfl (zgq rfl (zgq rfl (zgq rfl (zgq rfl (zgq rfl (zgq rfl (zgq rfl (zgq rfl (zgq rfl (zgq rfl (zaq rfl rfl (zaq rfl rfl (zeq ?_))))))))))))))))
    refine zfq (zcq (zbq (zaq rfl rfl (zaq rfl rfl (zaq rfl rfl (zaq rfl rfl (zaq rfl rfl (zdq rfl rfl (zdq rfl rfl (zsq rfl rfl rfl rfl rfl rfl (yXq (w' := .bool true) (rtsame_s t t (by omega)) (by rw [decide_eq_true rfl])) ?_))))))))))
    refine zaq rfl rfl (zaq rfl rfl (zeq ?_))
    refine zfq (zjq ?_)
    exact znq (.inr rfl) rfl rfl
end Go.Proofs.Ytgeelfdgnehdnaa
namespace Go.Proofs.Ytgeelfdgnehdnaa
open Go.RowKit Go.ChangeShapes Go.WideShapes
set_option linter.unusedSimpArgs false
set_option linter.unusedVariables false
theorem returns_wt {H : Type} {enc : TypeId × Value → H} {a : Assume} {C : Checked} {os : Os} {f : FuncId} {fn : Func} {s : ChangeSpec} {conds : List PathCond} {apart fresh handsOn again : Bool}
    (own : ownKnob C.prog.godebug = none) (started : os.Started) (noInit : C.prog.inits.idxOf? f = none) (hfn : C.prog.funcs[f]? = some fn)
    (witness : ∃ (w : World) (tape : Tape) (i : Input), w.os = os ∧ (w.forCall tape i).Shaped C.prog ∧ i.vars = [] ∧ Input.okWide C.prog (w.forCall tape i) .any w.heap.size f i ∧
      s.pre6 enc C.prog fn conds apart (w.forCall tape i).memory i.args ∧ a.holds C.prog (lone (Frame.enter C.prog f i.args .normal) [] (w.forCall tape i)))
    (contract : ∀ (W : World) (base : Nat) (args : Array Value) (ds gs : List (DataW H)) (before : List MemPlace),
      (∀ (j : Nat) t v, fn.params[j]? = some t → args[j]? = some v → Value.okWide C.prog W .any base t v) →
      DataW.Whole enc C.prog fn.params.toList s.vars apart W args.toList ds gs before →
      conds.all (PathCond.test C.prog ⟨fn.params.toList, ds, s.plain.varTypes C.prog, gs⟩) = true →
      (DataW.weightsEach C.prog (fn.params.toList ++ s.plain.varTypes C.prog) (ds ++ gs)).all (· ≤ reachBytes) = true →
      a.holds C.prog (lone (Frame.enter C.prog f args .normal) [] W) →
      Calls C.prog f args W fun e W' => ∃ v, e = .returned v ∧ s.post enc C.prog fn apart fresh handsOn again W args v W') :
    ReturnsInHanded a C os f .any (s.pre6 enc C.prog fn conds apart) (s.post enc C.prog fn apart fresh handsOn again) := by
  refine returnsInHanded_of_calls own started noInit witness fun w tape i _ hsh hvars hok hpre hholds => ?_
  obtain ⟨hb, _, _, fn', hfn', _, _, _, _, hval⟩ := hok
  obtain rfl : fn' = fn := Option.some.inj (hfn'.symm.trans hfn)
  obtain ⟨⟨ds, gs, before, hw, hc⟩, hz⟩ := hpre
  refine (contract (w.forCall tape i) w.heap.size i.args ds gs before hval (DataW.Whole.of_heap (w' := w.forCall tape i) (by rfl) hw) hc (hz.weights hw) hholds).mono fun e W' ⟨v, he, hp⟩ => ?_
  subst he
  exact ChangeSpec.post_blind hp
mutual
/-- cells of the memory at the start that hold what a value says -/
def HC (W0 : World) : W → List Value → Prop
  | .bool b, cs => cs = [.bool b]
  | .int k n, cs => cs = [.int k n]
  | .agg n l, cs => cs.length = n ∧ HCL W0 l cs
  | .arr n e l, cs => cs.length = n ∧ (∀ x ∈ l, x.size = e) ∧ l.length * e = n ∧ HCL W0 l cs
  | .str x, cs => cs = [.string ⟨⟨x⟩⟩]
  | .fz l e f, cs => f = false ∧ ((l = [] ∧ cs = [.slice none 0 0]) ∨ (l = [] ∧ 0 < e ∧ ∃ (a : Addr) (bn : Nat) (cs' : Array Value) (ty : TypeId) (fz : Nat × Nat), cs = [.slice (some a) 0 0] ∧ W0.heap[bn]? = some (.cells cs' ty fz)) ∨ ∃ (a : Addr) (cap : Nat), cs = [.slice (some a) l.length cap] ∧ l.length ≤ cap ∧ a.spot = none ∧ 0 < e ∧ (∀ x ∈ l, x.size = e) ∧
      ∃ (pre mid tail : List Value) (ty : TypeId) (fz : Nat × Nat), W0.heap[a.block]? = some (.cells (pre ++ (mid ++ tail)).toArray ty fz) ∧ pre.length = a.off ∧ HCL W0 l mid)
  | _, _ => False
def HCL (W0 : World) : List W → List Value → Prop
  | [], cs => cs = []
  | x :: l, cs => ∃ a b, cs = a ++ b ∧ HC W0 x a ∧ HCL W0 l b
end
theorem HC.len {W0 : World} {w : W} {cs : List Value} (h : HC W0 w cs) : cs.length = w.size := by
  cases w <;> simp only [HC] at h <;> first
    | (subst h; rfl)
    | exact h.1
    | exact h.elim
    | (rcases h with ⟨_, ⟨_, rfl⟩ | ⟨_, _, _, _, _, _, _, rfl, _⟩ | ⟨a, cap, rfl, _⟩⟩ <;> rfl)
structure Start (W0 : World) (h : Heap) (ρ : Env) : Prop where
  wf : ∀ i, h.next ≤ i → h.get i = none
  ro : ∀ i b, h.get i = some b → ∃ v o, b = .ro v ∧ W0.heap[ρ.b i]? = some o ∧ KnB ρ i b o ∧ InB (DD (fun i => i < h.next) ρ) b
theorem Start.rel {W0 : World} {h : Heap} {ρ : Env} (s : Start W0 h ρ) {U : Nat} (hU : h.next ≤ U) : Rel W0 U (fun i => i < h.next) ρ h W0 := by
  refine ⟨fun i hi => .inl hi, s.wf, fun i b _ hb => ?_, fun i b _ hb => ?_, fun i j b c _ _ hb _ ho => ?_, fun i b _ hb ho => ?_, fun i j b c _ _ _ hc _ ho => ?_, Below.refl _ _⟩
  · obtain ⟨v, o, rfl, h1, h2, h3⟩ := s.ro i b hb
    exact ⟨o, h1, h2⟩
  · obtain ⟨v, o, rfl, h1, h2, h3⟩ := s.ro i b hb
    exact h3
  · obtain ⟨v, o, rfl, _⟩ := s.ro i b hb
    cases ho
  · obtain ⟨v, o, rfl, _⟩ := s.ro i b hb
    cases ho
  · obtain ⟨v, o, rfl, _⟩ := s.ro j c hc
    cases ho
theorem law1 {P : Program} {C : Cfg} {G : Nat → Option W} (hmx : P.follows .mixedOrders = true) (hC : CfgOK P C) (hF : FnsOK P C) (hK : uFq P C) {f : FuncId} {ws : List W} (sp : PS C G f ws (.bool true)) {W0 : World} {h : Heap} {ρ : Env} {vs : List V} (s : Start W0 h ρ)
    (gl : GlobOK C (DD (fun i => i < h.next) ρ) ρ) (gr : GRel C G ⟨0, fun i => i, fun i => i < h.next, h⟩) (hin : InDL (DD (fun i => i < h.next) ρ) vs) (hv : RVL ⟨0, fun i => i, fun i => i < h.next, h⟩ ws vs) :
    Calls P f (ypq ρ vs).toArray W0 fun e w' => e = .returned (.bool true) ∧ Below W0.heap.size W0 w' := by
  obtain ⟨n, v, Γ', X', w, hp', R', g1, g2, g3, g4, g5, rfl⟩ := sp Res.none ⟨0, fun i => i, fun i => i < h.next, h⟩ (fun _ => False) vs rfl
    ⟨s.wf, fun b ty w hb => by simp [hget] at hb, fun b b' x y hb => by simp [hget] at hb, List.nodup_nil, fun _ _ h => h, fun _ h => h.elim, fun _ h => h, trivial, gr⟩ hv
  refine (run_calls hmx hC hF hK g1 gl hin (s.rel g3.next)).mono fun e w' => ?_
  rintro ⟨D', ρ', rfl, hb, _⟩
  have hvb : v = .bool true := by
    have := g4.one rfl
    simpa [RS] using this
  subst hvb
  exact ⟨rfl, hb⟩
end Go.Proofs.Ytgeelfdgnehdnaa
namespace Go.Proofs.Ytgeelfdgnehdnaa
open Go.RowKit
set_option linter.unusedSimpArgs false
set_option linter.unusedVariables false
structure Later (h : Heap) (ρ : Env) (h' : Heap) (ρ' : Env) : Prop where
  next : h.next ≤ h'.next
  get : ∀ i, i < h.next → h'.get i = h.get i
  env : ∀ i, i < h.next → ρ'.b i = ρ.b i ∧ ρ'.pre i = ρ.pre i ∧ ρ'.cap i = ρ.cap i ∧ ρ'.l i = ρ.l i
theorem Later.refl (h : Heap) (ρ : Env) : Later h ρ h ρ := ⟨Nat.le_refl _, fun _ _ => rfl, fun _ _ => ⟨rfl, rfl, rfl, rfl⟩⟩
theorem Later.trans {h1 h2 h3 : Heap} {ρ1 ρ2 ρ3 : Env} (a : Later h1 ρ1 h2 ρ2) (b : Later h2 ρ2 h3 ρ3) : Later h1 ρ1 h3 ρ3 :=
  ⟨Nat.le_trans a.next b.next, fun i hi => (b.get i (Nat.lt_of_lt_of_le hi a.next)).trans (a.get i hi), fun i hi => by
    obtain ⟨p1, p2, p3, p4⟩ := a.env i hi
    obtain ⟨q1, q2, q3, q4⟩ := b.env i (Nat.lt_of_lt_of_le hi a.next)
    exact ⟨q1.trans p1, q2.trans p2, q3.trans p3, q4.trans p4⟩⟩
noncomputable def ctx0 (h : Heap) : Ctx := ⟨0, fun i => i, fun i => i < h.next, h⟩
theorem Later.le {h h' : Heap} {ρ ρ' : Env} (a : Later h ρ h' ρ') : (ctx0 h).Le (ctx0 h') :=
  ⟨Nat.le_refl _, fun _ _ => rfl, fun c hc => Nat.lt_of_lt_of_le hc a.next, fun c hc => by
    show h'.val c = h.val c
    unfold Heap.val
    rw [a.get c hc]⟩
theorem Later.agree {h h' : Heap} {ρ ρ' : Env} (a : Later h ρ h' ρ') : Env.Agree (DD (fun i => i < h.next) ρ) ρ ρ' := fun i m hi => a.env i hi.1
def Env.more (ρ : Env) (n bn pre cap : Nat) (z : Option Addr) : Env := ⟨fun i => if i = n then bn else ρ.b i, fun i => if i = n then pre else ρ.pre i, fun i => if i = n then cap else ρ.cap i, fun i => if i = n then (bn, z) else ρ.l i⟩
theorem upq (h : Heap) (ρ : Env) (v : V) (bn pre cap : Nat) (z : Option Addr) : Later h ρ (h.push (.ro v)) (ρ.more h.next bn pre cap z) := by
  refine ⟨Nat.le_succ _, fun i hi => ?_, fun i hi => ?_⟩
  · rw [Heap.get_push, if_neg (by omega)]
  · have e : i ≠ h.next := by omega
    simp only [Env.more, if_neg e, and_self]
theorem Start.push {W0 : World} {h : Heap} {ρ : Env} (s : Start W0 h ρ) (z : Option Addr) {v : V} {bn cap : Nat} {pre tail : List Value} {ty : TypeId} {fz : Nat × Nat} (ho : W0.heap[bn]? = some (.cells (pre ++ (zkq ρ v ++ tail)).toArray ty fz)) (hv : InD (DD (fun i => i < h.next) ρ) v) (hc : v.size ≤ cap) : Start W0 (h.push (.ro v)) (ρ.more h.next bn pre.length cap z) := by
  have la := upq h ρ v bn pre.length cap z
  have mono : ∀ i m, DD (fun i => i < h.next) ρ i m → DD (fun i => i < (h.push (.ro v)).next) (ρ.more h.next bn pre.length cap z) i m := fun i m hi => ⟨Nat.lt_of_lt_of_le hi.1 la.next, by rw [(la.env i hi.1).2.2.1]; exact hi.2⟩
  refine ⟨fun i hi => ?_, fun i b hb => ?_⟩
  · have hi : h.next + 1 ≤ i := hi
    rw [Heap.get_push, if_neg (by omega)]
    exact s.wf i (by omega)
  · rw [Heap.get_push] at hb
    split at hb
    · rename_i e
      cases hb
      subst e
      refine ⟨v, _, rfl, by simp only [Env.more, if_true]; exact ho, ⟨pre, tail, ty, fz, ?_, by simp [Env.more], by simp only [Env.more, if_true]; exact hc⟩, InD.mono mono hv⟩
      rw [y6q la.agree hv]
    · obtain ⟨v', o, rfl, h1, h2, h3⟩ := s.ro i b hb
      have hi : i < h.next := Nat.lt_of_not_le fun q => by rw [s.wf i q] at hb; cases hb
      exact ⟨v', o, rfl, by rw [(la.env i hi).1]; exact h1, h2.agree la.agree (m := 0) ⟨hi, Nat.zero_le _⟩ h3, InB.mono mono h3⟩
theorem Start.ghost {W0 : World} {h : Heap} {ρ : Env} (s : Start W0 h ρ) {bn : Nat} {cs : Array Value} {ty : TypeId} {fz : Nat × Nat} (ho : W0.heap[bn]? = some (.cells cs ty fz)) (a : Addr) : Start W0 (h.push (.ro (.agg 0 []))) (ρ.more h.next bn 0 0 (some a)) := by
  refine Start.push s (some a) (v := .agg 0 []) (pre := []) (tail := cs.toList) (ty := ty) (fz := fz) ?_ trivial (Nat.le_refl _)
  rw [ho]
  simp [zkq, fit]
structure Opnd (W0 : World) (h : Heap) (ρ : Env) (cs : List Value) (s : List V) (h' : Heap) (ρ' : Env) : Prop where
  la : Later h ρ h' ρ'
  st : Start W0 h' ρ'
  eq : cs = s.map (conc ρ')
  leaf : ∀ v ∈ s, v.leaf = true
  ind : InDL (DD (fun i => i < h'.next) ρ') s
theorem Later.dd {h h' : Heap} {ρ ρ' : Env} (a : Later h ρ h' ρ') : ∀ i m, DD (fun i => i < h.next) ρ i m → DD (fun i => i < h'.next) ρ' i m := fun i m hi => ⟨Nat.lt_of_lt_of_le hi.1 a.next, by rw [(a.env i hi.1).2.2.1]; exact hi.2⟩
theorem Later.map {h h' : Heap} {ρ ρ' : Env} (a : Later h ρ h' ρ') {s : List V} (hs : InDL (DD (fun i => i < h.next) ρ) s) : s.map (conc ρ') = s.map (conc ρ) := by
  rw [← kpq, ← kpq, qlq a.agree hs]
theorem InDL_app {D : Nat → Nat → Prop} {a b : List V} (ha : InDL D a) (hb : InDL D b) : InDL D (a ++ b) := InDL_iff.2 fun v hv => by
  rcases List.mem_append.1 hv with h | h
  · exact InDL_iff.1 ha v h
  · exact InDL_iff.1 hb v h
theorem ZXq {ρ : Env} : ∀ {s : List V}, (∀ v ∈ s, v.leaf = true) → jdq ρ s = s.map (conc ρ)
  | [], _ => rfl
  | v :: s, h => by
    rw [jdq, kqq (h v (List.mem_cons_self ..)), ZXq (s := s) fun x hx => h x (List.mem_cons_of_mem _ hx)]; rfl
theorem Zaq {ρ : Env} {s : List V} (h : ∀ v ∈ s, v.leaf = true) : zkq ρ (.agg s.length s) = s.map (conc ρ) := by
  simp only [zkq, ZXq h]
  exact y4q (by simp)
theorem ZNq {s : List V} (h : ∀ v ∈ s, v.leaf = true) : zxq (.agg s.length s) = s := vbq (fun x hx => V.leaf_agg (h x hx)) rfl
theorem HCL.len {W0 : World} : ∀ {l : List W} {cs : List Value}, HCL W0 l cs → cs.length = sumW l
  | [], cs, h => by simp only [HCL] at h; subst h; rfl
  | x :: l, cs, h => by
    simp only [HCL] at h
    obtain ⟨a, b, rfl, h1, h2⟩ := h
    rw [List.length_append, HC.len h1, HCL.len h2]; rfl
mutual
theorem open_w {W0 : World} : ∀ (w : W) {cs : List Value} {h : Heap} {ρ : Env}, HC W0 w cs → Start W0 h ρ → ∃ h' ρ' s, Opnd W0 h ρ cs s h' ρ' ∧ RS (ctx0 h') w s
  | .bool b, cs, h, ρ, hc, st => by
    simp only [HC] at hc; subst hc
    exact ⟨h, ρ, [.bool b], ⟨Later.refl _ _, st, by simp [conc], by simp [V.leaf], ⟨trivial, trivial⟩⟩, by simp [RS]⟩
  | .int k n, cs, h, ρ, hc, st => by
    simp only [HC] at hc; subst hc
    exact ⟨h, ρ, [.int k n], ⟨Later.refl _ _, st, by simp [conc], by simp [V.leaf], ⟨trivial, trivial⟩⟩, by simp [RS]⟩
  | .str x, cs, h, ρ, hc, st => by
    simp only [HC] at hc; subst hc
    exact ⟨h, ρ, [.str x], ⟨Later.refl _ _, st, by simp [conc], by simp [V.leaf], ⟨trivial, trivial⟩⟩, by simp [RS]⟩
  | .agg n l, cs, h, ρ, hc, st => by
    simp only [HC] at hc
    obtain ⟨h', ρ', s, o, r⟩ := open_l l hc.2 st
    exact ⟨h', ρ', s, o, by simp only [RS]; exact ⟨by rw [← hc.1, o.eq]; simp, r⟩⟩
  | .arr n e l, cs, h, ρ, hc, st => by
    simp only [HC] at hc
    obtain ⟨h', ρ', s, o, r⟩ := open_l l hc.2.2.2 st
    exact ⟨h', ρ', s, o, by simp only [RS]; exact ⟨by rw [← hc.1, o.eq]; simp, hc.2.1, r⟩⟩
  | .fz l e f, cs, h, ρ, hc, st => by
    simp only [HC] at hc
    obtain ⟨rfl, ⟨rfl, rfl⟩ | ⟨rfl, he, a, bn, cs', ty, fz, rfl, ho⟩ | ⟨a, cap, rfl, hle, hsp, he, hsz, pre, mid, tail, ty, fz, ho, hpre, hl⟩⟩ := hc
    · exact ⟨h, ρ, [.nils], ⟨Later.refl _ _, st, by simp [conc], by simp [V.leaf], ⟨trivial, trivial⟩⟩, by simp [RS]⟩
    · have la := upq h ρ (.agg 0 []) bn 0 0 (some a)
      refine ⟨_, _, [.sl h.next 1 0 0 e (some 0)], ⟨la, st.ghost ho a, ?_, by simp [V.leaf], ⟨⟨he, Nat.le_refl _, Nat.lt_succ_self _, by simp⟩, trivial⟩⟩, ?_⟩
      · simp [conc, yOq, yNq, ueq, Env.more]
      · simp only [RS]
        refine .inr ⟨h.next, 1, 0, some 0, .agg 0 [], rfl, fun h => (by cases h), Nat.lt_succ_self _, ?_, rfl, by simp [V.size], by simp, ?_⟩
        · simp [ctx0, Heap.val, Heap.get_push]
        · simp [RSL]
    · obtain ⟨h1, ρ1, s, o, r⟩ := open_l l hl st
      have hlen : s.length = l.length * e := by
        have h1 := HCL.len hl
        rw [jJq hsz, o.eq, List.length_map] at h1
        exact h1
      have la := upq h1 ρ1 (.agg s.length s) a.block a.off (cap * e) none
      have hcl : l.length * e ≤ cap * e := Nat.mul_le_mul_right e hle
      have stp : Start W0 (h1.push (.ro (.agg s.length s))) (ρ1.more h1.next a.block a.off (cap * e) none) := by
        rw [← hpre]
        refine o.st.push none (tail := tail) (ty := ty) (fz := fz) ?_ o.ind (by show s.length ≤ cap * e; omega)
        rw [Zaq o.leaf, ← o.eq]; exact ho
      refine ⟨_, _, [.sl h1.next 0 0 l.length e (some cap)], ⟨o.la.trans la, stp, ?_, by simp [V.leaf], ⟨⟨he, hle, Nat.lt_succ_self _, by simp [Env.more]⟩, trivial⟩⟩, ?_⟩
      · obtain ⟨ab, ao, asp⟩ := a
        simp only at hsp
        subst hsp
        by_cases hc0 : cap = 0
        · subst hc0
          simp [conc, yOq, yNq, Env.more]
        · simp [conc, yOq, yNq, Env.more, hc0]
      · simp only [RS]
        refine .inr ⟨h1.next, 0, 0, some cap, .agg s.length s, rfl, fun h => (by cases h), Nat.lt_succ_self _, ?_, rfl, by simp only [V.size]; omega, hsz, ?_⟩
        · simp [ctx0, Heap.val, Heap.get_push]
        · rw [List.drop_zero, ZNq o.leaf, List.take_of_length_le (by omega)]
          exact RSL.mono la.le r
  | .undef, cs, h, ρ, hc, st => by simp [HC] at hc
  | .nilp, cs, h, ρ, hc, st => by simp [HC] at hc
  | .ptr _ _, cs, h, ρ, hc, st => by simp [HC] at hc
  | .nils, cs, h, ρ, hc, st => by simp [HC] at hc
  | .sl _ _ _ _ _ _, cs, h, ρ, hc, st => by simp [HC] at hc
  | .fel _, cs, h, ρ, hc, st => by simp [HC] at hc
  | .nilm, cs, h, ρ, hc, st => by simp [HC] at hc
  | .fn _ _ _, cs, h, ρ, hc, st => by simp [HC] at hc
  | .yield _, cs, h, ρ, hc, st => by simp [HC] at hc
  | .nilf, cs, h, ρ, hc, st => by simp [HC] at hc
  | .iface _ _, cs, h, ρ, hc, st => by simp [HC] at hc
  | .nili, cs, h, ρ, hc, st => by simp [HC] at hc
  | .tup _, cs, h, ρ, hc, st => by simp [HC] at hc
theorem open_l {W0 : World} : ∀ (l : List W) {cs : List Value} {h : Heap} {ρ : Env}, HCL W0 l cs → Start W0 h ρ → ∃ h' ρ' s, Opnd W0 h ρ cs s h' ρ' ∧ RSL (ctx0 h') l s
  | [], cs, h, ρ, hc, st => by
    simp only [HCL] at hc; subst hc
    exact ⟨h, ρ, [], ⟨Later.refl _ _, st, rfl, by simp, trivial⟩, by simp [RSL]⟩
  | x :: l, cs, h, ρ, hc, st => by
    simp only [HCL] at hc
    obtain ⟨a, b, rfl, h1, h2⟩ := hc
    obtain ⟨h1', ρ1, s1, o1, r1⟩ := open_w x h1 st
    obtain ⟨h2', ρ2, s2, o2, r2⟩ := open_l l h2 o1.st
    refine ⟨h2', ρ2, s1 ++ s2, ⟨o1.la.trans o2.la, o2.st, ?_, ?_, InDL_app (o1.ind.mono o2.la.dd) o2.ind⟩, qRq (RS.mono o2.la.le r1) r2⟩
    · rw [List.map_append, o2.la.map o1.ind, ← o1.eq, ← o2.eq]
    · intro v hv
      rcases List.mem_append.1 hv with h | h
      · exact o1.leaf v h
      · exact o2.leaf v h
end
def HV (W0 : World) (w : W) (v : Value) : Prop := match w.isAgg with
  | true => ∃ cs, v = .agg cs.toArray ∧ HC W0 w cs
  | false => HC W0 w [v]
def HVL (W0 : World) : List W → List Value → Prop
  | [], vs => vs = []
  | w :: ws, vs => ∃ v vs', vs = v :: vs' ∧ HV W0 w v ∧ HVL W0 ws vs'
theorem open_v {W0 : World} {w : W} {v : Value} {h : Heap} {ρ : Env} (hv : HV W0 w v) (st : Start W0 h ρ) : ∃ h' ρ' x, Later h ρ h' ρ' ∧ Start W0 h' ρ' ∧ conc ρ' x = v ∧ InD (DD (fun i => i < h'.next) ρ') x ∧ RV (ctx0 h') w x := by
  unfold HV at hv
  split at hv
  · rename_i ha
    obtain ⟨cs, rfl, hc⟩ := hv
    obtain ⟨h', ρ', s, o, r⟩ := open_w w hc st
    refine ⟨h', ρ', .agg s.length s, o.la, o.st, ?_, o.ind, ha, by rw [ZNq o.leaf]; exact r⟩
    rw [qAq rfl, Zaq o.leaf, ← o.eq]
  · rename_i ha
    obtain ⟨h', ρ', s, o, r⟩ := open_w w hv st
    have hl := congrArg List.length o.eq
    simp only [List.length_cons, List.length_nil, List.length_map] at hl
    match s, hl, o, r with
    | [x], _, o, r =>
      have e := o.eq
      simp only [List.map_cons, List.map_nil, List.cons.injEq, and_true] at e
      exact ⟨h', ρ', x, o.la, o.st, e.symm, o.ind.1, RV.of_one r ha (V.leaf_agg (o.leaf x (by simp)))⟩
theorem open_vs {W0 : World} : ∀ {ws : List W} {vs : List Value} {h : Heap} {ρ : Env}, HVL W0 ws vs → Start W0 h ρ → ∃ h' ρ' xs, Later h ρ h' ρ' ∧ Start W0 h' ρ' ∧ ypq ρ' xs = vs ∧ InDL (DD (fun i => i < h'.next) ρ') xs ∧ RVL (ctx0 h') ws xs
  | [], vs, h, ρ, hv, st => by
    simp only [HVL] at hv; subst hv
    exact ⟨h, ρ, [], Later.refl _ _, st, rfl, trivial, by simp [RVL]⟩
  | w :: ws, vs, h, ρ, hv, st => by
    simp only [HVL] at hv
    obtain ⟨v, vs', rfl, h1, h2⟩ := hv
    obtain ⟨ha, ρa, x, la, sa, ea, ia, ra⟩ := open_v h1 st
    obtain ⟨hb, ρb, xs, lb, sb, eb, ib, rb⟩ := open_vs h2 sa
    refine ⟨hb, ρb, x :: xs, la.trans lb, sb, ?_, ⟨ia.mono lb.dd, ib⟩, ?_⟩
    · rw [ypq, eb, yZq lb.agree ia, ea]
    · simp only [RVL]
      exact ⟨x, xs, rfl, RV.mono lb.le ra, rb⟩
end Go.Proofs.Ytgeelfdgnehdnaa
namespace Go.Proofs.Ytgeelfdgnehdnaa
open Go.RowKit Go.ChangeShapes Go.WideShapes
set_option linter.unusedSimpArgs false
set_option linter.unusedVariables false
inductive Sh where
  | bool
  | int (k : IntKind)
  | str
  | arr (n sz : Nat) (s : Sh)
  | st (n : Nat) (fs : List Sh)
  | sl (sz bz : Nat) (s : Sh)
def Sh.cells : Sh → Nat
  | .arr n sz _ => n * sz
  | .st n _ => n
  | _ => 1
def Sh.agg : Sh → Bool
  | .arr _ _ _ => true
  | .st _ _ => true
  | _ => false
def shF (g : TypeId → Option Sh) (P : Program) : List Field → Nat → Option (List Sh × Nat)
  | [], off => some ([], off)
  | F :: Fs, off => match g F.type with
    | some s => match Nat.beq F.offset off && Nat.beq (P.cellsOf F.type) s.cells with
      | true => match shF g P Fs (off + s.cells) with
        | some (l, n) => some (s :: l, n)
        | none => none
      | false => none
    | none => none
def shOf (P : Program) : Nat → TypeId → Option Sh
  | 0, _ => none
  | d + 1, t => match P.underlying t with
    | some .bool => some .bool
    | some (.int k) => some (.int k)
    | some .string => some .str
    | some (.array n e) => match shOf P d e with
      | some s => match Nat.beq (P.cellsOf e) s.cells && Nat.beq (P.cellsOf t) (n * s.cells) with
        | true => some (.arr n s.cells s)
        | false => none
      | none => none
    | some (.slice e) => match shOf P d e with
      | some s => match Nat.beq (P.cellsOf e) s.cells && Nat.blt 0 s.cells with
        | true => some (.sl s.cells (P.bytesOf e) s)
        | false => none
      | none => none
    | some (.struct F) => match shF (shOf P d) P F.toList 0 with
      | some (l, n) => match Nat.beq (P.cellsOf t) n with
        | true => some (.st n l)
        | false => none
      | none => none
    | _ => none
mutual
/-- a value of that shape -/
def Fit : Sh → W → Prop
  | .bool, w => ∃ b, w = .bool b
  | .int k, w => ∃ n, w = .int k n ∧ (Lit.int k n).wf = true
  | .str, w => ∃ x, w = .str x ∧ x.length ≤ reachBytes
  | .arr n sz s, w => ∃ l, w = .arr (n * sz) sz l ∧ l.length = n ∧ ∀ x ∈ l, Fit s x
  | .st n fs, w => ∃ l, w = .agg n l ∧ FitL fs l
  | .sl sz bz s, w => ∃ l, w = .fz l sz false ∧ l.length * bz ≤ reachBytes ∧ ∀ x ∈ l, Fit s x
def FitL : List Sh → List W → Prop
  | [], l => l = []
  | s :: fs, l => ∃ x l', l = x :: l' ∧ Fit s x ∧ FitL fs l'
end
theorem Fit.size {s : Sh} {w : W} (h : Fit s w) : w.size = s.cells := by
  cases s <;> simp only [Fit] at h
  case bool => obtain ⟨_, rfl⟩ := h; rfl
  case int => obtain ⟨_, rfl, _⟩ := h; rfl
  case str => obtain ⟨_, rfl, _⟩ := h; rfl
  all_goals (obtain ⟨_, rfl, _⟩ := h; rfl)
theorem Fit.agg {s : Sh} {w : W} (h : Fit s w) : w.isAgg = s.agg := by
  cases s <;> simp only [Fit] at h
  case bool => obtain ⟨_, rfl⟩ := h; rfl
  case int => obtain ⟨_, rfl, _⟩ := h; rfl
  case str => obtain ⟨_, rfl, _⟩ := h; rfl
  all_goals (obtain ⟨_, rfl, _⟩ := h; rfl)
def Ex0 (W0 : World) : Prop := ∃ (bn : Nat) (cs : Array Value) (ty : TypeId) (fz : Nat × Nat), W0.heap[bn]? = some (.cells cs ty fz)
theorem segs {W0 : World} {s : Sh} {sz : Nat} : ∀ (n : Nat) (L : List Value), (∀ i, i < n → ∃ w, Fit s w ∧ HC W0 w ((L.drop (i * sz)).take sz)) → ∃ l : List W, l.length = n ∧ (∀ x ∈ l, Fit s x) ∧ HCL W0 l (L.take (n * sz))
  | 0, L, _ => ⟨[], rfl, by simp, by simp [HCL]⟩
  | n + 1, L, h => by
    obtain ⟨w, f, hc⟩ := h 0 (by omega)
    obtain ⟨l, h1, h2, h3⟩ := segs n (L.drop sz) (fun i hi => by
      have := h (i + 1) (by omega)
      rw [List.drop_drop, show sz + i * sz = (i + 1) * sz by rw [Nat.add_mul]; omega]
      exact this)
    refine ⟨w :: l, by simp [h1], ?_, ?_⟩
    · intro x hx
      rcases List.mem_cons.1 hx with rfl | hx
      · exact f
      · exact h2 x hx
    · simp only [HCL]
      refine ⟨L.take sz, (L.drop sz).take (n * sz), ?_, by simpa using hc, h3⟩
      rw [show (n + 1) * sz = sz + n * sz by rw [Nat.add_mul]; omega, List.take_add]
section
variable {H : Type} {enc : TypeId × Value → H} {P : Program} {W0 : World}
theorem jMq {e : TypeId} : ∀ {l : List (DataW H)} {d : DataW H} {n : Nat}, d ∈ l → n ∈ d.weights P e → n ∈ DataW.weightsAll P e l
  | [], _, _, h, _ => by simp at h
  | x :: l, d, n, h, hn => by
    rw [DataW.weightsAll]
    rcases List.mem_cons.1 h with rfl | h
    · exact List.mem_append_left _ hn
    · exact List.mem_append_right _ (jMq h hn)
abbrev Tr0 (enc : TypeId × Value → H) (P : Program) (W0 : World) := DataW.trod enc P W0 0 (fun _ => true) true
theorem fields {g : TypeId → Option Sh} {m : Nat} (ih : ∀ t sh, g t = some sh → ∀ cs x, Tr0 enc P W0 m t cs = some x → (∀ n ∈ x.1.weights P t, n ≤ reachBytes) → ((∃ a n c, Value.slice (some a) n c ∈ cs) → Ex0 W0) → ∃ w, Fit sh w ∧ HC W0 w cs) (cs : List Value) (hE : (∃ a n c, Value.slice (some a) n c ∈ cs) → Ex0 W0) :
    ∀ (Fs : List Field) (xs : List (DataW H × List MemPlace)) (off : Nat) (fs : List Sh) (n : Nat), shF g P Fs off = some (fs, n) → xs.length = Fs.length → (∀ (i : Nat) (f : Field), Fs[i]? = some f → Tr0 enc P W0 m f.type ((cs.drop f.offset).take (P.cellsOf f.type)) = xs[i]?) →
      (∀ n ∈ DataW.weightsEach P (Fs.map (·.type)) (xs.map (·.1)), n ≤ reachBytes) → ∃ l, FitL fs l ∧ HCL W0 l ((cs.drop off).take (n - off)) ∧ off ≤ n
  | [], xs, off, fs, n, hs, hl, hx, hw => by
    simp only [shF, Option.some.injEq, Prod.mk.injEq] at hs
    obtain ⟨rfl, rfl⟩ := hs
    exact ⟨[], by simp [FitL], by simp [HCL], Nat.le_refl _⟩
  | F :: Fs, [], off, fs, n, hs, hl, hx, hw => by simp at hl
  | F :: Fs, x :: xs, off, fs, n, hs, hl, hx, hw => by
    unfold shF at hs
    split at hs
    · rename_i s hg
      split at hs
      · rename_i hc
        simp only [Bool.and_eq_true, Nat.beq_eq] at hc
        split at hs
        · rename_i l' n' hr
          simp only [Option.some.injEq, Prod.mk.injEq] at hs
          obtain ⟨rfl, rfl⟩ := hs
          simp only [List.map_cons, DataW.weightsEach] at hw
          obtain ⟨l, k1, k2, k3⟩ := fields ih cs hE Fs xs (off + s.cells) l' n' hr (by simpa using hl) (fun i f hf => by
            have := hx (i + 1) f (by simpa using hf)
            simpa using this) (fun k hk => hw k (List.mem_append_right _ hk))
          have h0 := hx 0 F rfl
          simp only [List.getElem?_cons_zero] at h0
          obtain ⟨w, f1, f2⟩ := ih F.type s hg _ x h0 (fun k hk => hw k (List.mem_append_left _ hk)) (fun ⟨a, n, c, hm⟩ => hE ⟨a, n, c, List.mem_of_mem_drop (List.mem_of_mem_take hm)⟩)
          rw [hc.1, hc.2] at f2
          refine ⟨w :: l, ⟨w, l, rfl, f1, k1⟩, ?_, by omega⟩
          simp only [HCL]
          refine ⟨_, _, ?_, f2, k2⟩
          rw [show n' - off = s.cells + (n' - (off + s.cells)) by omega, List.take_add, List.drop_drop]
        · cases hs
      · cases hs
    · cases hs
theorem xSq : ∀ (d : Nat) (t : TypeId) (sh : Sh), shOf P d t = some sh → ∀ (fuel : Nat) (cs : List Value) (x : DataW H × List MemPlace), Tr0 enc P W0 fuel t cs = some x → (∀ n ∈ x.1.weights P t, n ≤ reachBytes) → ((∃ a n c, Value.slice (some a) n c ∈ cs) → Ex0 W0) → ∃ w, Fit sh w ∧ HC W0 w cs
  | 0, t, sh, hs => by simp [shOf] at hs
  | d + 1, t, sh, hs => fun fuel cs x h hw hE => by
    unfold shOf at hs
    split at hs
    · rename_i ht
      cases hs
      obtain ⟨b, rfl, rfl⟩ := DataW.trod_bool ht h
      exact ⟨.bool b, ⟨b, rfl⟩, by simp [HC]⟩
    · rename_i k ht
      cases hs
      obtain ⟨n, rfl, rfl, hwf⟩ := DataW.trod_int ht h
      exact ⟨.int k n, ⟨n, rfl, hwf⟩, by simp [HC]⟩
    · rename_i ht
      cases hs
      obtain ⟨s, rfl, rfl, hsz⟩ := DataW.trod_string ht h
      refine ⟨.str s.data.toList, ⟨_, rfl, ?_⟩, ?_⟩
      · exact hw _ (by simp [DataW.weights])
      · simp only [HC]
    · rename_i n e ht
      split at hs
      · rename_i s he
        split at hs
        · rename_i hc
          cases hs
          simp only [Bool.and_eq_true, Nat.beq_eq] at hc
          obtain ⟨xs, m, rfl, rfl, hl, hxl, hx⟩ := DataW.trod_array ht h
          rw [hc.1] at hx
          have hw : ∀ k ∈ DataW.weightsAll P e (xs.map (·.1)), k ≤ reachBytes := fun k hk => hw k (by simp only [DataW.weights, ht]; exact hk)
          obtain ⟨l, l1, l2, l3⟩ := segs (W0 := W0) (s := s) (sz := s.cells) n cs (fun i hi => by
            have h1 := hx i hi
            have hlt : i < xs.length := by omega
            rw [List.getElem?_eq_getElem hlt] at h1
            exact xSq d e s he m _ _ h1 (fun k hk => hw k (jMq (List.mem_map_of_mem (List.getElem_mem hlt)) hk)) (fun ⟨a, n, c, hm⟩ => hE ⟨a, n, c, List.mem_of_mem_drop (List.mem_of_mem_take hm)⟩))
          have hcl : cs.length = n * s.cells := by rw [hl, hc.2]
          refine ⟨.arr (n * s.cells) s.cells l, ⟨l, rfl, l1, l2⟩, ?_⟩
          simp only [HC]
          refine ⟨hcl, fun x hx => (l2 x hx).size, by rw [l1], ?_⟩
          rwa [List.take_of_length_le (by omega)] at l3
        · cases hs
      · cases hs
    · rename_i e ht
      split at hs
      · rename_i s he
        split at hs
        · rename_i hc
          cases hs
          simp only [Bool.and_eq_true, Nat.beq_eq] at hc
          obtain ⟨hce, hpos⟩ := hc
          have hpos : 0 < s.cells := blt_t hpos
          rcases DataW.trod_slice ht h with ⟨rfl, rfl⟩ | ⟨a, len, cap, elems, rest, n, rfl, rfl, rfl, hb, hl, hm, hlen, hel, hsp, _⟩
          · exact ⟨.fz [] s.cells false, ⟨[], rfl, by simp, by simp⟩, by unfold HC; exact ⟨rfl, .inl ⟨rfl, rfl⟩⟩⟩
          · by_cases hc0 : cap = 0
            · subst hc0
              obtain rfl : len = 0 := by omega
              obtain ⟨bn, cs', ty, fz, ho⟩ := hE ⟨a, 0, 0, by simp⟩
              exact ⟨.fz [] s.cells false, ⟨[], rfl, by simp, by simp⟩, by unfold HC; exact ⟨rfl, .inr (.inl ⟨rfl, hpos, a, bn, cs', ty, fz, rfl, ho⟩)⟩⟩
            · obtain ⟨hrl, hr⟩ := hsp rfl
              rw [hce] at hel hr
              have each : ∀ i, i < cap → ∃ csi y, W0.cells? 0 (a.add (i * s.cells)) s.cells = some csi ∧ Tr0 enc P W0 n e csi = some y ∧ (i < len → elems[i]? = some y) := fun i hi => by
                by_cases h1 : i < len
                · have h2 := hel i h1
                  have hlt : i < elems.length := by omega
                  rw [List.getElem?_eq_getElem hlt, Option.bind_eq_some_iff] at h2
                  obtain ⟨csi, q1, q2⟩ := h2
                  exact ⟨csi, _, q1, q2, fun _ => List.getElem?_eq_getElem hlt⟩
                · have h2 := hr (i - len) (by omega)
                  have hlt : i - len < rest.length := by omega
                  rw [List.getElem?_eq_getElem hlt, Option.bind_eq_some_iff, show len + (i - len) = i by omega] at h2
                  obtain ⟨csi, q1, q2⟩ := h2
                  exact ⟨csi, _, q1, q2, fun h => absurd h h1⟩
              -- the block
              obtain ⟨cs0, y0, e0, _, _⟩ := each 0 (by omega)
              obtain ⟨_, l0, c0⟩ := World.cells?_some e0
              have c1 := c0 0 hpos
              rw [Nat.zero_mul] at c1
              have ha0 : (a.add 0).add 0 = a := by simp [Addr.add]
              rw [ha0, List.getElem?_eq_getElem (by omega)] at c1
              obtain ⟨ab, ao, asp⟩ := a
              unfold World.cell? at c1
              split at c1
              · rename_i cs' ty fz ho
                simp only at ho c1
                split at c1
                · cases c1
                · rename_i hsp0
                  have hsp0 : asp = none := by simpa using hsp0
                  subst hsp0
                  obtain ⟨L, hL⟩ : ∃ L, L = cs'.toList.drop ao := ⟨_, rfl⟩
                  have seg : ∀ i, i < cap → ∀ csi, W0.cells? 0 (Addr.add ⟨ab, ao, none⟩ (i * s.cells)) s.cells = some csi → csi = (L.drop (i * s.cells)).take s.cells := fun i hi csi hcs => by
                    obtain ⟨_, q1, q2⟩ := World.cells?_some hcs
                    apply List.ext_getElem?
                    intro k
                    by_cases hk : k < s.cells
                    · have := q2 k hk
                      rw [q6q, q6q] at this
                      simp only [World.cell?, ho] at this
                      rw [← this, List.getElem?_take_of_lt hk, List.getElem?_drop, hL, List.getElem?_drop, Array.getElem?_toList, Nat.add_assoc]
                      simp
                    · rw [List.getElem?_eq_none (by omega), List.getElem?_eq_none (by simp; omega)]
                  have hLlen : cap * s.cells ≤ L.length := by
                    obtain ⟨csi, y, q1, _, _⟩ := each (cap - 1) (by omega)
                    obtain ⟨_, q2, _⟩ := World.cells?_some q1
                    have q3 := seg (cap - 1) (by omega) csi q1
                    have q4 := congrArg List.length q3
                    rw [q2, List.length_take, List.length_drop] at q4
                    have : cap * s.cells = (cap - 1) * s.cells + s.cells := by
                      have := Nat.add_mul (cap - 1) 1 s.cells
                      rw [show cap - 1 + 1 = cap by omega] at this; omega
                    omega
                  have hw2 : ∀ k ∈ DataW.weightsAll P e (elems.map (·.1)), k ≤ reachBytes := fun k hk => hw k (by simp only [DataW.weights, ht]; exact List.mem_cons_of_mem _ (List.mem_append_left _ hk))
                  have hw1 : (elems.length + rest.length) * P.bytesOf e ≤ reachBytes := hw _ (by simp only [DataW.weights, ht, List.length_map]; exact List.mem_cons_self ..)
                  obtain ⟨l, l1, l2, l3⟩ := segs (W0 := W0) (s := s) (sz := s.cells) len L (fun i hi => by
                    obtain ⟨csi, y, q1, q2, q3⟩ := each i (by omega)
                    rw [seg i (by omega) csi q1] at q2
                    exact xSq d e s he n _ _ q2 (fun k hk => hw2 k (jMq (List.mem_map_of_mem (List.mem_of_getElem? (q3 hi))) hk)) (fun _ => ⟨ab, cs', ty, fz, ho⟩))
                  have hlc : len * s.cells ≤ cap * s.cells := Nat.mul_le_mul_right _ hl
                  refine ⟨.fz l s.cells false, ⟨l, rfl, ?_, l2⟩, ?_⟩
                  · rw [l1]
                    refine Nat.le_trans (Nat.mul_le_mul_right _ ?_) hw1
                    omega
                  · unfold HC
                    refine ⟨rfl, .inr (.inr ⟨⟨ab, ao, none⟩, cap, by rw [l1], by omega, rfl, hpos, fun x hx => (l2 x hx).size, cs'.toList.take ao, L.take (len * s.cells), L.drop (len * s.cells), ty, fz, ?_, ?_, l3⟩)⟩
                    · rw [List.take_append_drop, hL, List.take_append_drop, Array.toArray_toList]; exact ho
                    · have hq : (cs'.toList.take ao).length = min ao cs'.toList.length := List.length_take
                      have := congrArg List.length hL
                      rw [List.length_drop] at this
                      have h2 : 0 < cap * s.cells := Nat.mul_pos (by omega) hpos
                      show (cs'.toList.take ao).length = ao
                      omega
              · cases c1
        · cases hs
      · cases hs
    · rename_i F ht
      split at hs
      · rename_i fs n hF
        split at hs
        · rename_i hc
          cases hs
          have hc := Nat.eq_of_beq_eq_true hc
          obtain ⟨xs, m, rfl, rfl, hl, hxl, hx⟩ := DataW.trod_struct ht h
          obtain ⟨l, k1, k2, k3⟩ := fields (enc := enc) (fun t sh hs cs x h1 h2 h3 => xSq d t sh hs m cs x h1 h2 h3) cs hE F.toList xs 0 fs n hF (by simpa using hxl) (fun i f hf => hx i f (by simpa using hf)) (fun k hk => hw k (by simp only [DataW.weights, ht]; exact hk))
          have hcl : cs.length = n := by rw [hl, hc]
          refine ⟨.agg n l, ⟨l, rfl, k1⟩, ?_⟩
          simp only [HC]
          refine ⟨hcl, ?_⟩
          rwa [List.drop_zero, Nat.sub_zero, List.take_of_length_le (by omega)] at k2
        · cases hs
      · cases hs
    · cases hs
theorem shape_ex {b : Nat} {x : TypeId × Nat} (h : W0.shape? b = some x) : Ex0 W0 := by
  unfold World.shape? at h
  split at h
  · rename_i cs ty fz ho; exact ⟨b, cs, ty, fz, ho⟩
  · cases h
theorem cell_ex {r : Reach} {base : Nat} {u : TypeId} {a : Addr} {n c : Nat} (h : Cell.okWide P W0 r base u (.slice (some a) n c)) : Ex0 W0 := by
  unfold Cell.okWide at h
  split at h
  all_goals first
    | (rename_i he; cases he; done)
    | skip
  unfold Cell.ok at h
  split at h
  all_goals first
    | exact h.elim
    | (rename_i he; cases he; done)
    | skip
  rename_i he
  cases he
  obtain ⟨_, _, row, cells, hs, _⟩ := h.2.2
  exact shape_ex hs
theorem cell_one {r : Reach} {base : Nat} {u : TypeId} {v : Value} (h : Cell.okWide P W0 r base u v) : v.cells = #[v] := by
  cases v <;> first
    | rfl
    | (exfalso
       unfold Cell.okWide at h
       split at h
       all_goals first
         | (rename_i he; cases he; done)
         | skip
       unfold Cell.ok at h
       split at h
       all_goals first
         | exact h.elim
         | (rename_i he; cases he; done))
theorem row_ex {r : Reach} {base : Nat} {t : TypeId} {cs : Array Value} (h : Row.okWide P W0 r base t cs) {a : Addr} {n c : Nat} (hm : Value.slice (some a) n c ∈ cs.toList) : Ex0 W0 := by
  obtain ⟨ts, _, _, hc⟩ := h
  obtain ⟨i, hi⟩ := List.getElem?_of_mem hm
  obtain ⟨u, _, hu⟩ := hc i _ (by simpa using hi)
  exact cell_ex hu
theorem ok_agg {r : Reach} {base d : Nat} {t : TypeId} {sh : Sh} {v : Value} (hs : shOf P d t = some sh) (hv : Value.okWide P W0 r base t v) : match sh.agg with
    | true => ∃ cs : Array Value, v = .agg cs ∧ Row.okWide P W0 r base t cs
    | false => Cell.okWide P W0 r base t v := by
  cases d with
  | zero => simp [shOf] at hs
  | succ d =>
    unfold shOf at hs
    unfold Value.okWide at hv
    split at hs
    · rename_i ht; cases hs; rw [ht] at hv; exact hv
    · rename_i k ht; cases hs; rw [ht] at hv; exact hv
    · rename_i ht; cases hs; rw [ht] at hv; exact hv
    · rename_i n e ht
      rw [ht] at hv
      obtain ⟨cs, rfl, _, hr⟩ := hv
      split at hs
      · split at hs
        · cases hs; exact ⟨cs, rfl, hr⟩
        · cases hs
      · cases hs
    · rename_i e ht
      rw [ht] at hv
      split at hs
      · split at hs
        · cases hs; exact hv
        · cases hs
      · cases hs
    · rename_i F ht
      rw [ht] at hv
      obtain ⟨cs, rfl, _, hr⟩ := hv
      split at hs
      · split at hs
        · cases hs; exact ⟨cs, rfl, hr⟩
        · cases hs
      · cases hs
    · cases hs
theorem open_arg {r : Reach} {base d : Nat} {t : TypeId} {sh : Sh} {v : Value} {x : DataW H} {p : List MemPlace} (hs : shOf P d t = some sh) (hv : Value.okWide P W0 r base t v) (hd : DataW.Trod enc P W0 0 (fun _ => true) true t v x p) (hw : ∀ n ∈ x.weights P t, n ≤ reachBytes) : ∃ w, Fit sh w ∧ HV W0 w v := by
  obtain ⟨fuel, hf⟩ := hd
  have hk := ok_agg hs hv
  obtain ⟨w, f, hc⟩ := xSq d t sh hs fuel _ _ hf hw (fun ⟨a, n, c, hm⟩ => by
    split at hk
    · obtain ⟨cs, rfl, hr⟩ := hk
      exact row_ex hr hm
    · rw [cell_one hk] at hm
      simp only [List.mem_cons, List.not_mem_nil, or_false] at hm
      rw [← hm] at hk
      exact cell_ex hk)
  refine ⟨w, f, ?_⟩
  unfold HV
  rw [f.agg]
  generalize sh.agg = ag at hk
  cases ag with
  | true =>
    obtain ⟨cs, rfl, hr⟩ := hk
    exact ⟨cs.toList, by simp, hc⟩
  | false =>
    have hk : Cell.okWide P W0 r base t v := hk
    rw [cell_one hk] at hc
    exact hc
def shAll (P : Program) (d : Nat) : List TypeId → Option (List Sh)
  | [] => some []
  | t :: ts => match shOf P d t, shAll P d ts with
    | some s, some l => some (s :: l)
    | _, _ => none
theorem open_all {r : Reach} {base d : Nat} : ∀ {ts : List TypeId} {shs : List Sh} {vs : List Value} {xs : List (DataW H)} {p : List MemPlace}, shAll P d ts = some shs → (∀ (j : Nat) t v, ts[j]? = some t → vs[j]? = some v → Value.okWide P W0 r base t v) →
    DataW.TrodAll enc P W0 0 (fun _ => true) true ts vs xs p → (∀ n ∈ DataW.weightsEach P ts xs, n ≤ reachBytes) → ∃ ws, FitL shs ws ∧ HVL W0 ws vs
  | [], shs, vs, xs, p, hs, hv, hd, hw => by
    obtain ⟨rfl, rfl, rfl⟩ := trodAll_nil hd
    simp only [shAll, Option.some.injEq] at hs
    subst hs
    exact ⟨[], by simp [FitL], by simp [HVL]⟩
  | t :: ts, shs, vs, xs, p, hs, hv, hd, hw => by
    obtain ⟨v, vs', x, xs', p', q, rfl, rfl, rfl, h1, h2⟩ := trodAll_cons hd
    simp only [shAll] at hs
    split at hs
    · rename_i s l e1 e2
      cases hs
      simp only [DataW.weightsEach] at hw
      obtain ⟨w, f, k⟩ := open_arg e1 (hv 0 t v rfl rfl) h1 (fun n hn => hw n (List.mem_append_left _ hn))
      obtain ⟨ws, fs, ks⟩ := open_all e2 (fun j t v h3 h4 => hv (j + 1) t v (by simpa using h3) (by simpa using h4)) h2 (fun n hn => hw n (List.mem_append_right _ hn))
      exact ⟨w :: ws, ⟨w, ws, rfl, f, fs⟩, ⟨v, vs', rfl, k, ks⟩⟩
    · cases hs
def rowedAll (P : Program) : List TypeId → Bool
  | [] => true
  | t :: ts => P.readableRec t && Nat.blt t P.types.size && rowedAll P ts
theorem Below.trodAll (hl : laidOutB P = true) {W W' : World} (hb : Below W.heap.size W W') : ∀ {ts : List TypeId} {vs : List Value} {xs : List (DataW H)} {p : List MemPlace}, rowedAll P ts = true → DataW.TrodAll enc P W 0 (fun _ => true) true ts vs xs p → DataW.TrodAll enc P W' 0 (fun b => decide (b < W.heap.size)) true ts vs xs p
  | [], vs, xs, p, hr, h => by
    obtain ⟨rfl, rfl, rfl⟩ := trodAll_nil h
    exact trodAll_mk0
  | t :: ts, vs, xs, p, hr, h => by
    simp only [rowedAll, Bool.and_eq_true] at hr
    obtain ⟨v, vs', x, xs', p', q, rfl, rfl, rfl, h1, h2⟩ := trodAll_cons h
    refine trodAll_cons_mk (Below.trod hl hr.1.1 (blt_t hr.1.2) h1 hb ?_) (Below.trodAll hl hb hr.2 h2)
    obtain ⟨m, hm⟩ := h1
    exact DataW.trod_lt m _ _ _ hm
end
theorem Later.glob {C : Cfg} {h h' : Heap} {ρ ρ' : Env} (la : Later h ρ h' ρ') (gl : GlobOK C (DD (fun i => i < h.next) ρ) ρ) : GlobOK C (DD (fun i => i < h'.next) ρ') ρ' := fun g hg => by
  obtain ⟨h1, h2, h3⟩ := gl g hg
  obtain ⟨e1, e2, _, _⟩ := la.env g h1.1
  exact ⟨la.dd _ _ h1, by rw [e1]; exact h2, by rw [e2]; exact h3⟩
theorem Later.grel {C : Cfg} {G : Nat → Option W} {h h' : Heap} {ρ ρ' : Env} (la : Later h ρ h' ρ') (gr : GRel C G (ctx0 h)) : GRel C G (ctx0 h') := fun g w hg hw nw σ =>
  RV.mono (Γ := ⟨nw, σ, (ctx0 h).D, (ctx0 h).h⟩) (Γ' := ⟨nw, σ, (ctx0 h').D, (ctx0 h').h⟩) ⟨Nat.le_refl _, fun _ _ => rfl, la.le.D, la.le.val⟩ (gr g w hg hw nw σ)
theorem calls_of {P : Program} {C : Cfg} {G : Nat → Option W} (hmx : P.follows .mixedOrders = true) (hC : CfgOK P C) (hF : FnsOK P C) (hK : uFq P C) {f : FuncId} {shs : List Sh} (ps : ∀ ws, FitL shs ws → PS C G f ws (.bool true)) {W0 : World} {h : Heap} {ρ : Env} (s : Start W0 h ρ)
    (gl : GlobOK C (DD (fun i => i < h.next) ρ) ρ) (gr : GRel C G (ctx0 h)) {vs : List Value} (hv : ∃ ws, FitL shs ws ∧ HVL W0 ws vs) :
    Calls P f vs.toArray W0 fun e w' => e = .returned (.bool true) ∧ Below W0.heap.size W0 w' := by
  obtain ⟨ws, f1, hv⟩ := hv
  obtain ⟨h', ρ', xs, la, st, rfl, i, r⟩ := open_vs hv s
  exact law1 hmx hC hF hK (ps ws f1) st (la.glob gl) (la.grel gr) i r
theorem Start.bare (W0 : World) (K n : Nat) : Start W0 ⟨n, n, .nil⟩ (rho0 K) := ⟨fun i _ => Tr.get_nil i, fun i b hb => by
  have : (Tr.nil : Tr Blk).get i = some b := hb
  rw [Tr.get_nil] at this; cases this⟩
mutual
def zCells : Sh → List Value
  | .bool => [.bool false]
  | .int k => [.int k 0]
  | .str => [.string ⟨#[]⟩]
  | .arr n _ s => (List.replicate n (zCells s)).flatten
  | .st _ fs => zCellsL fs
  | .sl _ _ _ => [.slice none 0 0]
def zCellsL : List Sh → List Value
  | [] => []
  | s :: l => zCells s ++ zCellsL l
end
def zVal (s : Sh) : Value := match s.agg, zCells s with
  | true, l => .agg l.toArray
  | false, v :: _ => v
  | false, [] => .bool false
end Go.Proofs.Ytgeelfdgnehdnaa
namespace Go.Proofs.Ytgeelfdgnehdnaa
open Go.RowKit
set_option linter.unusedSimpArgs false
set_option linter.unusedVariables false
theorem YHq {α : Type} {f : α → W} {Q : α → Prop} : ∀ {l : List W}, (∀ x ∈ l, ∃ a, x = f a ∧ Q a) → ∃ ys : List α, l = ys.map f ∧ ∀ a ∈ ys, Q a
  | [], _ => ⟨[], rfl, by simp⟩
  | x :: l, h => by
    obtain ⟨a, rfl, ha⟩ := h x (List.mem_cons_self ..)
    obtain ⟨ys, rfl, hs⟩ := YHq (l := l) fun y hy => h y (List.mem_cons_of_mem _ hy)
    exact ⟨a :: ys, rfl, fun b hb => by
      rcases List.mem_cons.1 hb with rfl | hb
      · exact ha
      · exact hs b hb⟩
theorem fit_u8 {w : W} (h : Fit (.int .u8) w) : ∃ c : UInt8, w = .int .u8 (.ofNat c.toNat) ∧ True := by
  obtain ⟨n, rfl, hw⟩ := h
  have hb : 0 ≤ n ∧ n ≤ 255 := by
    simp [Lit.wf, IntKind.min, IntKind.max, IntKind.signed, IntKind.bits] at hw
    omega
  refine ⟨UInt8.ofNat n.toNat, ?_, trivial⟩
  congr 1
  have : (UInt8.ofNat n.toNat).toNat = n.toNat := by simp; omega
  rw [this]
  show n = ((n.toNat : Nat) : Int)
  omega
theorem fit_u64 {w : W} (h : Fit (.int .u64) w) : ∃ n : Nat, w = .int .u64 (n : Int) ∧ n < 18446744073709551616 := by
  obtain ⟨n, rfl, hw⟩ := h
  have hb : 0 ≤ n ∧ n ≤ 18446744073709551615 := by
    simp [Lit.wf, IntKind.min, IntKind.max, IntKind.signed, IntKind.bits] at hw
    omega
  exact ⟨n.toNat, by congr 1; omega, by omega⟩
theorem fit_i64 {w : W} (h : Fit (.int .i64) w) : ∃ n : Int, w = .int .i64 n ∧ -9223372036854775808 ≤ n ∧ n ≤ 9223372036854775807 := by
  obtain ⟨n, rfl, hw⟩ := h
  have hb : -9223372036854775808 ≤ n ∧ n ≤ 9223372036854775807 := by
    simp [Lit.wf, IntKind.min, IntKind.max, IntKind.signed, IntKind.bits] at hw
    omega
  exact ⟨n, rfl, hb⟩
theorem fit_bool {w : W} (h : Fit .bool w) : ∃ b, w = .bool b := h
theorem fit_bytes {l : List W} (h : ∀ x ∈ l, Fit (.int .u8) x) : ∃ bs : List UInt8, l = zDq bs := by
  obtain ⟨bs, rfl, _⟩ := YHq (f := fun c : UInt8 => W.int .u8 (.ofNat c.toNat)) (Q := fun _ => True) fun x hx => fit_u8 (h x hx)
  exact ⟨bs, rfl⟩
theorem fit_dig {w : W} (h : Fit (.arr 32 1 (.int .u8)) w) : ∃ k : Dig, w = dW k := by
  obtain ⟨l, rfl, hl, hx⟩ := h
  obtain ⟨bs, rfl⟩ := fit_bytes hx
  exact ⟨⟨bs, by simpa [zDq] using hl⟩, rfl⟩
theorem fit_bW {bz : Nat} {w : W} (h : Fit (.sl 1 bz (.int .u8)) w) : ∃ b : List UInt8, w = bW b ∧ b.length * bz ≤ 140737488351232 := by
  obtain ⟨l, rfl, hl, hx⟩ := h
  obtain ⟨bs, rfl⟩ := fit_bytes hx
  exact ⟨bs, rfl, by simpa [zDq, reachBytes] using hl⟩
theorem fit_sl {α : Type} {f : α → W} {Q : α → Prop} {sz bz : Nat} {s : Sh} {w : W} (h : Fit (.sl sz bz s) w) (hx : ∀ x, Fit s x → ∃ a, x = f a ∧ Q a) : ∃ ys : List α, w = .fz (ys.map f) sz false ∧ ys.length * bz ≤ 140737488351232 ∧ ∀ a ∈ ys, Q a := by
  obtain ⟨l, rfl, hl, hs⟩ := h
  obtain ⟨ys, rfl, hq⟩ := YHq fun x hm => hx x (hs x hm)
  exact ⟨ys, rfl, by simpa [reachBytes] using hl, hq⟩
end Go.Proofs.Ytgeelfdgnehdnaa
namespace Go.Proofs.Ytgeelfdgnehdnaa
open Go.RowKit
set_option linter.unusedSimpArgs false
set_option linter.unusedVariables false
theorem fit_acct {w : W} (h : Fit (.st 2 [.int .u64, .int .u64]) w) : ∃ a : Acct, w = aW a ∧ a.ok := by
  obtain ⟨l, rfl, x, l1, rfl, h1, y, l2, rfl, h2, rfl⟩ := h
  obtain ⟨n, rfl, hn⟩ := fit_u64 h1
  obtain ⟨m, rfl, hm⟩ := fit_u64 h2
  exact ⟨⟨n, m⟩, rfl, hn, hm⟩
theorem fit_node {w : W} (h : Fit (.st 36 [.bool, .arr 32 1 (.int .u8), .sl 1 1 (.int .u8), .int .i64, .int .i64]) w) : ∃ x : Node, w = nW x ∧ x.val.length ≤ 140737488351232 := by
  obtain ⟨l, rfl, w1, l1, rfl, h1, w2, l2, rfl, h2, w3, l3, rfl, h3, w4, l4, rfl, h4, w5, l5, rfl, h5, rfl⟩ := h
  obtain ⟨b, rfl⟩ := fit_bool h1
  obtain ⟨k, rfl⟩ := fit_dig h2
  obtain ⟨v, rfl, hv⟩ := fit_bW h3
  obtain ⟨i, rfl, _⟩ := fit_i64 h4
  obtain ⟨j, rfl, _⟩ := fit_i64 h5
  exact ⟨⟨b, k, v, i, j⟩, rfl, by simpa using hv⟩
theorem fit_tree {w : W} (h : Fit (.st 2 [.sl 36 80 (.st 36 [.bool, .arr 32 1 (.int .u8), .sl 1 1 (.int .u8), .int .i64, .int .i64]), .int .i64]) w) : ∃ t : Tree, w = tW t ∧ t.nodes.length * 80 ≤ 140737488351232 ∧ (∀ x ∈ t.nodes, x.val.length ≤ 140737488351232) ∧ t.root ≤ 9223372036854775807 := by
  obtain ⟨l, rfl, w1, l1, rfl, h1, w2, l2, rfl, h2, rfl⟩ := h
  obtain ⟨ns, rfl, hl, hn⟩ := fit_sl h1 fun x hx => fit_node hx
  obtain ⟨r, rfl, _, hr⟩ := fit_i64 h2
  exact ⟨⟨ns, r⟩, rfl, hl, hn, hr⟩
end Go.Proofs.Ytgeelfdgnehdnaa

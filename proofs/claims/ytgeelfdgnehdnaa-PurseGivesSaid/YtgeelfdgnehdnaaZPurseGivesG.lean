/-
  What the proof of PurseGives stands on, part 7. No condition.
-/
import Derived.Test.YtgeelfdgnehdnaaZPurseGivesF
namespace Go.Proofs.Ytgeelfdgnehdnaa
open Go.RowKit
set_option linter.unusedSimpArgs false
set_option linter.unusedVariables false
attribute [local irreducible] CoW OpW FlW Step Spec
variable {G : Nat → Option W}
noncomputable def mkW (b n : Nat) (root : Int) : W := .agg 2 [.sl b 0 0 n 36 none, .int .i64 root]
theorem nsW_snoc (ns : List Node) (x : Node) : nsW (ns ++ [x]) = .arr ((ns.length + 1) * 36) 36 (ns.map nW ++ [nW x]) := by simp [nsW]
theorem node_s (ns : List Node) (root : Int) (x : Node) (hl : ns.length ≤ 1000000000) : qFq cfg G 74 2 [.ptr 0 0, nW x] [(0, 101, mkW 1 ns.length root), (1, 70, nsW ns)] fun w hp nw =>
    w = .int .i64 ((ns.length + 1 : Nat) : Int) ∧ hp = [(0, 101, mkW 2 (ns.length + 1) root), (2, 70, nsW (ns ++ [x]))] ∧ nw = 3 := by
  intro R
  have el : (ns.map nW).length = ns.length := List.length_map _
  refine yrq (fn := Try.f74) rfl rfl rfl (Nat.le_of_ble_eq_true rfl) (fun k0 => ?_)
  refine zcq (zbq (zeq rfl rfl (zaq rfl rfl (zdq ?_))))
  refine zfq (zcq (zZq (zhq rfl rfl (zhq rfl rfl (zhq rfl rfl (zhq rfl rfl (zhq rfl rfl (zDq rfl rfl ?_))))))))
  refine zDq rfl rfl ?_
  refine zDq rfl rfl ?_
  refine jiq rfl (jBq rfl rfl (uWq (len := ns.length) (news := [nW x]) (olds := ns.map nW) (k := ti70) rfl rfl rfl rfl (jRq rfl rfl rfl rfl) (by simp) (by show (ns.length + 1) * 80 ≤ _; omega) (by show ns.length + 1 ≤ _; omega) rfl (by show ns.length * 36 < 0 + (ns.length + 1) * 36; omega) rfl (qbq (by decide) el.symm rfl))) (by first | rfl | kernel_rfl) ?_
  refine zhq rfl rfl (zhq rfl rfl (zhq rfl rfl (zDq rfl rfl ?_)))
  refine z6q ?_
  refine zfq (zcq (zbq (zaq rfl rfl (zaq rfl rfl (zaq rfl rfl (zaq rfl rfl (zeq rfl rfl ?_)))))))
  first | refine ZGq rfl rfl ?_ | refine zaq rfl rfl ?_
  refine zaq rfl rfl (zdq ?_)
  refine zfq (zjq ?_)
  refine fin (.inr rfl) (jnq (b := 2) (k := 4) (fr2 := [(4, .int .i64 ((ns.length + 1 : Nat) : Int))]) (hp2 := [(0, 101, mkW 2 (ns.length + 1) root), (2, 70, nsW (ns ++ [x]))]) (by omega) (by omega) (by show 4 < 5; omega) ⟨⟨rfl, rfl⟩, trivial⟩ ⟨⟨by omega, rfl, rfl⟩, ⟨by omega, ?_, zwq (qTq _)⟩, trivial⟩ (by simp)) rfl ⟨rfl, rfl, rfl, rfl⟩
  rw [ysq (qTq _), nsW_snoc]
  rfl
noncomputable def Mk (root : Int) (P : List Node → Nat → Prop) : W → HpW → Nat → Prop := fun w hp nw =>
  ∃ ns m, P ns m ∧ w = .int .i64 ((m : Nat) : Int) ∧ hp = [(0, 101, mkW 2 ns.length root), (2, 70, nsW ns)] ∧ nw = 3
theorem yyq {o : Oper} {fr : FrW} {hp : HpW} {nw : Nat} {R : Res} {post : W → HpW → Nat → Res → Option EvW → Prop} {x : Operand} {xs : Array Operand} {ats : Array TypeId} {f : FuncId} {us : List W} {root : Int} {ns : List Node} {P : List Node → Nat → Prop} (k : Nat)
    (ho : o.op = .call ⟨.value x, xs, ats⟩) (hx : evW cfg G fr x = some (.fn f [] [])) (he : cfg.ext f = none) (hxs : evLW cfg G fr xs.toList = some (.ptr 0 0 :: us)) (hpu : purL us = true) (hk : 0 < k) (hkn : k < nw)
    (h0 : hget hp 0 = some (101, mkW k ns.length root)) (h1 : hget hp k = some (70, nsW ns)) (sp : qFq cfg G f 2 (.ptr 0 0 :: us) [(0, 101, mkW 1 ns.length root), (1, 70, nsW ns)] (Mk root P))
    (hpost : ∀ ns' m, P ns' m → post (.int .i64 ((m : Nat) : Int)) ((0, 101, mkW nw ns'.length root) :: (nw, 70, nsW ns') :: delA [0, k] hp) (nw + 1) R (some .dirty)) : Step cfg G o fr hp nw R post := by
  refine q7q (ext := [0, k]) (ws := .ptr 0 0 :: us) ho hx he hxs ?_ sp ?_ ?_ (by simp) (handed2 h0 (by rw [ysq (qTq _)]; exact h1) rfl (zwq (qTq _))) ?_ ?_
  · show .ptr 0 0 :: (us ++ []) = W.ptr 0 0 :: y5q (numC [0, k] nw) us
    rw [jvq hpu, List.append_nil]
  · simp; omega
  · intro b hb
    simp only [List.mem_cons, List.not_mem_nil, or_false] at hb
    omega
  · have h := zwq (m := 2) (w := .tup us) hpu
    have h : refL 2 us = true := h
    show (refB 2 (.ptr 0 0) && refL 2 us) = true
    rw [h]; rfl
  · rintro w hp1 nw1 ⟨ns', m, h, rfl, rfl, rfl⟩
    have e : renH (numC [0, k] nw) [(0, 101, mkW 2 ns'.length root), (2, 70, nsW ns')] = [(0, 101, mkW nw ns'.length root), (nw, 70, nsW ns')] := by
      simp only [renH, ysq (qTq _)]; rfl
    have h := hpost ns' m h
    rw [show ([0, k] : List Nat).length = 2 from rfl, e]
    exact h
theorem jXq {k0 : Nat} {rs : List ResultVar} {x : Exit} {fr : FrW} {hp : HpW} {nw : Nat} {R : Res} {root : Int} {P : List Node → Nat → Prop} {ns : List Node} {m : Nat} (s k : Nat) (hx : x = .normal ∨ x = .ret) (hk : 2 ≤ k) (hkn : k < nw) (hf : getW fr s = some (.int .i64 ((m : Nat) : Int)))
    (h0 : hget hp (tau1 2 k 0) = some (101, renW (tau1 2 k) (mkW 2 ns.length root))) (h1 : hget hp (tau1 2 k 2) = some (70, nsW ns)) (ho : outW cfg [(s, .int .i64 ((m : Nat) : Int))] [(0, 101, mkW 2 ns.length root), (2, 70, nsW ns)] rs = some (.int .i64 ((m : Nat) : Int))) (hP : P ns m) :
    QFin cfg G 2 k0 rs (fun w hp nw R' => R' = R ∧ Mk root P w hp nw) x fr hp nw R :=
  fin hx (jnq (b := 2) (k := k) (fr2 := [(s, .int .i64 ((m : Nat) : Int))]) (hp2 := [(0, 101, mkW 2 ns.length root), (2, 70, nsW ns)]) (by omega) hk hkn ⟨⟨hf, rfl⟩, trivial⟩ ⟨⟨by omega, h0, rfl⟩, ⟨by omega, by rw [ysq (qTq _)]; exact h1, zwq (qTq _)⟩, trivial⟩ (by simp)) ho ⟨rfl, ns, m, hP, rfl, rfl, rfl⟩
def NodeP (ns : List Node) (x : Node) : List Node → Nat → Prop := fun ns' m => ns' = ns ++ [x] ∧ m = ns.length + 1
theorem qvq (ns : List Node) (root : Int) (x : Node) (hl : ns.length ≤ 1000000000) : qFq cfg G 74 2 [.ptr 0 0, nW x] [(0, 101, mkW 1 ns.length root), (1, 70, nsW ns)] (Mk root (NodeP ns x)) := by
  have h := node_s (G := G) ns root x hl
  intro R
  have e : (fun w hp nw R' => R' = R ∧ (w = .int .i64 ((ns.length + 1 : Nat) : Int) ∧ hp = [(0, 101, mkW 2 (ns.length + 1) root), (2, 70, nsW (ns ++ [x]))] ∧ nw = 3)) = (fun (w : W) (hp : HpW) (nw : Nat) (R' : Res) => R' = R ∧ Mk root (NodeP ns x) w hp nw) := by
    funext w hp nw R'
    refine propext (and_congr_right fun _ => ⟨fun ⟨h1, h2, h3⟩ => ⟨_, _, ⟨rfl, rfl⟩, h1, by rw [h2]; simp, h3⟩, ?_⟩)
    rintro ⟨ns', m, ⟨rfl, rfl⟩, h1, h2, h3⟩
    exact ⟨h1, by rw [h2]; simp, h3⟩
  exact e ▸ h R
def Gr (ns : List Node) (f : Nat) (t : T) : List Node → Nat → Prop := fun ns' m => (∃ ms, ns' = ns ++ ms ∧ ms.length ≤ f) ∧ okN ns' ∧ Rep ns' m t
theorem okN_snoc {ns : List Node} {x : Node} (h : okN ns) (hx : oneB x ns.length) : okN (ns ++ [x]) := fun i y hy => by
  rcases Nat.lt_trichotomy i ns.length with h1 | rfl | h1
  · rw [List.getElem?_append_left h1] at hy; exact h i y hy
  · rw [List.getElem?_append_right (Nat.le_refl _), Nat.sub_self] at hy
    cases hy; exact hx
  · rw [List.getElem?_append_right (by omega), List.getElem?_eq_none (by simp; omega)] at hy
    cases hy
theorem at_snoc (ns : List Node) (x : Node) : (ns ++ [x])[ns.length]? = some x := by simp
theorem leaf_one {k : Dig} {v : List UInt8} (hv : MayP [(k, v)]) (n : Nat) : oneB ⟨true, k, v, 0, 0⟩ n := by simp [oneB, hv]
theorem YBq {ns : List Node} {k : Dig} {v : List UInt8} (hok : okN ns) (hv : MayP [(k, v)]) {f : Nat} (hf : 0 < f) : Gr ns f (.leaf k v) (ns ++ [⟨true, k, v, 0, 0⟩]) (ns.length + 1) :=
  ⟨⟨_, rfl, hf⟩, okN_snoc hok (leaf_one hv _), .leaf (at_snoc ns _)⟩
theorem qBq {ns ms : List Node} {l r f : Nat} {L R : T} (hms : ms.length ≤ f) (hok : okN (ns ++ ms)) (hl : Rep (ns ++ ms) l L) (hr : Rep (ns ++ ms) r R) (h : 0 < l + r) : Gr ns (f + 1) (.fork L R) (ns ++ ms ++ [forkN l r]) ((ns ++ ms).length + 1) :=
  ⟨⟨ms ++ [forkN l r], by simp, by simp; omega⟩, okN_snoc hok (by have := hl.le; have := hr.le; simp only [oneB, forkN, Bool.false_eq_true, if_false]; exact ⟨by omega, by omega, trivial, trivial, by omega⟩), .fork (at_snoc _ _) hl.le hr.le (hl.app _) (hr.app _)⟩
theorem u6q (ns : List Node) {i : Nat} {x : Node} (h : ns[i]? = some x) : ∃ w, yDq 50 (nsW ns) (0 + i * 36) 36 true = some w ∧ (w = nW x ∨ (ns.length = 1 ∧ w = .arr 36 36 [nW x])) := by
  by_cases e : ns.length = 1
  · obtain ⟨y, rfl⟩ := List.length_eq_one_iff.1 e
    cases i with
    | zero => cases h; exact ⟨_, rfl, .inr ⟨rfl, rfl⟩⟩
    | succ i => simp at h
  · have hi := (List.getElem?_eq_some_iff.1 h).1
    exact ⟨_, get_in (off := 0) (yLq nW h) (by omega) (by omega) (by rw [show Nat.beq 36 (ns.length * 36) = false from by rw [← Bool.not_eq_true, Nat.beq_eq]; omega]; simp) rfl, .inl rfl⟩
abbrev YUq (G : Nat → Option W) (root : Int) (k : Dig) (v : List UInt8) (ns : List Node) (n d : Nat) (P : List Node → Nat → Prop) : Prop := qFq cfg G 55 2 [.ptr 0 0, .int .i64 ((n : Nat) : Int), .int .i64 ((d : Nat) : Int), nW ⟨true, k, v, 0, 0⟩] [(0, 101, mkW 1 ns.length root), (1, 70, nsW ns)] (Mk root P)
theorem with_nil {root : Int} {k : Dig} {v : List UInt8} {ns : List Node} {d f : Nat} (hok : okN ns) (hv : MayP [(k, v)]) (hf : 0 < f) (hl : ns.length ≤ 1000000000) : YUq G root k v ns 0 d (Gr ns f (.leaf k v)) := by
  intro R
  refine yrq (fn := Try.f55) rfl rfl rfl (Nat.le_of_ble_eq_true rfl) (fun k0 => ?_)
  refine zcq (zbq (zeq rfl rfl (zaq rfl rfl (zdq ?_))))
  refine zfq (zcq (zcq (zbq (zaq rfl rfl (zCq rfl rfl ?_)))))
  refine zdq ?_
  refine zfq ?_
  refine zEq rfl (fun h1 => ?_) (fun h1 => ?_)
  · refine zcq (zbq (zaq rfl rfl (zeq rfl rfl ?_)))
    (refine zYq rfl (yyq 1 rfl rfl rfl rfl (by simp) (by omega) (by show 1 < 3; omega) rfl rfl (qvq ns root _ hl) ?_); rintro ns1 m ⟨rfl, rfl⟩)
    refine zaq rfl rfl (zdq ?_)
    refine zfq (zjq ?_)
    refine zlq (by intro h; cases h) ?_
    exact jXq 8 3 (.inr rfl) (by omega) (by show 3 < 4; omega) rfl rfl rfl rfl (YBq hok hv hf)
  · exfalso; omega
theorem with_hit {root : Int} {k : Dig} {v v' : List UInt8} {ns : List Node} {i d f : Nat} {l r : Int} (hx : ns[i]? = some ⟨true, k, v', l, r⟩) (hok : okN ns) (hv : MayP [(k, v)]) (hf : 0 < f) (hl : ns.length ≤ 1000000000) : YUq G root k v ns (i + 1) d (Gr ns f (.leaf k v)) := by
  intro R
  have hi := (List.getElem?_eq_some_iff.1 hx).1
  obtain ⟨w, hw, rfl | ⟨_, rfl⟩⟩ := u6q ns hx
  · refine yrq (fn := Try.f55) rfl rfl rfl (Nat.le_of_ble_eq_true rfl) (fun k0 => ?_)
    refine zcq (zbq (zeq rfl rfl (zaq rfl rfl (zdq ?_))))
    refine zfq (zcq (zcq (zbq (zaq rfl rfl (zCq rfl rfl ?_)))))
    refine zdq ?_
    refine zfq ?_
    refine zEq rfl (fun h1 => ?_) (fun h1 => ?_)
    · exfalso; omega
    · refine ziq (zfq (zcq (zbq (zaq rfl rfl (zaq rfl rfl (zaq rfl rfl (zaq rfl rfl (zeq rfl rfl (zaq rfl rfl (zyq (i) rfl rfl (by first | rfl | omega) ⟨by omega, by omega⟩ ?_))))))))))
      refine zaq rfl (yiq (i := i) rfl rfl rfl rfl rfl rfl rfl hi) (zeq rfl (yYq rfl rfl rfl hw) (zeq rfl rfl (zeq rfl rfl (zdq ?_))))
      refine zfq (zcq (zcq (zbq (zaq rfl rfl (zeq rfl rfl ?_)))))
      refine k6q (fun h2 => ?_) (fun h2 => ?_)
      · refine zaq rfl rfl (zaq rfl rfl (zeq rfl rfl (zaq rfl rfl (zeq rfl rfl ?_))))
        refine jUq rfl (qkq rfl rfl rfl rfl (qOq rfl rfl rfl rfl rfl rfl _ _ 250)) yPq ?_
        refine zaq rfl rfl (zdq ?_)
        refine zfq ?_
        refine zEq rfl (fun h3 => ?_) (fun h3 => ?_)
        · refine zcq (zbq (zaq rfl rfl (zeq rfl rfl ?_)))
          (refine zYq rfl (yyq 1 rfl rfl rfl rfl (by simp) (by omega) (by show 1 < 4; omega) rfl rfl (qvq ns root _ hl) ?_); rintro ns1 m ⟨rfl, rfl⟩)
          refine zaq rfl rfl (zdq ?_)
          refine zfq (zjq ?_)
          refine zlq (by intro h; cases h) ?_
          exact jXq 8 4 (.inr rfl) (by omega) (by show 4 < 5; omega) rfl rfl rfl rfl (YBq hok hv hf)
        · exfalso; exact h3 rfl
      · exfalso; exact h2 rfl
  · refine yrq (fn := Try.f55) rfl rfl rfl (Nat.le_of_ble_eq_true rfl) (fun k0 => ?_)
    refine zcq (zbq (zeq rfl rfl (zaq rfl rfl (zdq ?_))))
    refine zfq (zcq (zcq (zbq (zaq rfl rfl (zCq rfl rfl ?_)))))
    refine zdq ?_
    refine zfq ?_
    refine zEq rfl (fun h1 => ?_) (fun h1 => ?_)
    · exfalso; omega
    · refine ziq (zfq (zcq (zbq (zaq rfl rfl (zaq rfl rfl (zaq rfl rfl (zaq rfl rfl (zeq rfl rfl (zaq rfl rfl (zyq (i) rfl rfl (by first | rfl | omega) ⟨by omega, by omega⟩ ?_))))))))))
      refine zaq rfl (yiq (i := i) rfl rfl rfl rfl rfl rfl rfl hi) (zeq rfl (yYq rfl rfl rfl hw) (zeq rfl rfl (zeq rfl rfl (zdq ?_))))
      refine zfq (zcq (zcq (zbq (zaq rfl rfl (zeq rfl rfl ?_)))))
      refine k6q (fun h2 => ?_) (fun h2 => ?_)
      · refine zaq rfl rfl (zaq rfl rfl (zeq rfl rfl (zaq rfl rfl (zeq rfl rfl ?_))))
        refine jUq rfl (qkq rfl rfl rfl rfl (qOq rfl rfl rfl rfl rfl rfl _ _ 250)) yPq ?_
        refine zaq rfl rfl (zdq ?_)
        refine zfq ?_
        refine zEq rfl (fun h3 => ?_) (fun h3 => ?_)
        · refine zcq (zbq (zaq rfl rfl (zeq rfl rfl ?_)))
          (refine zYq rfl (yyq 1 rfl rfl rfl rfl (by simp) (by omega) (by show 1 < 4; omega) rfl rfl (qvq ns root _ hl) ?_); rintro ns1 m ⟨rfl, rfl⟩)
          refine zaq rfl rfl (zdq ?_)
          refine zfq (zjq ?_)
          refine zlq (by intro h; cases h) ?_
          exact jXq 8 4 (.inr rfl) (by omega) (by show 4 < 5; omega) rfl rfl rfl rfl (YBq hok hv hf)
        · exfalso; exact h3 rfl
      · exfalso; exact h2 rfl
theorem with_leaf {root : Int} {k k' : Dig} {v v' : List UInt8} {ns : List Node} {i d f : Nat} {l r : Int} {t' : T} (hx : ns[i]? = some ⟨true, k', v', l, r⟩) (hk : k' ≠ k) (hd : d < 256) (hl : ns.length + f + 1 ≤ 1000000000) (ht : t'.non = true)
    (sp : YUq G root k v ns (if bitN k d = bitN k' d then i + 1 else 0) (d + 1) (Gr ns f t')) : YUq G root k v ns (i + 1) d (Gr ns (f + 1) (if bitN k d = 0 then .fork t' (if bitN k d = bitN k' d then .nil else .leaf k' v') else .fork (if bitN k d = bitN k' d then .nil else .leaf k' v') t')) := by
  intro R
  have hi := (List.getElem?_eq_some_iff.1 hx).1
  have b1 := qDq k d
  have b2 := qDq k' d
  have hc : bitN k d = 0 ∨ bitN k d = 1 := by omega
  have hc' : bitN k' d = 0 ∨ bitN k' d = 1 := by omega
  obtain ⟨w, hw, rfl | ⟨_, rfl⟩⟩ := u6q ns hx
  · rcases hc' with hc' | hc' <;> rcases hc with hc | hc
    · skip
      rw [if_pos (hc.trans hc'.symm)] at sp
      refine yrq (fn := Try.f55) rfl rfl rfl (Nat.le_of_ble_eq_true rfl) (fun k0 => ?_)
      refine zcq (zbq (zeq rfl rfl (zaq rfl rfl (zdq ?_))))
      refine zfq (zcq (zcq (zbq (zaq rfl rfl (zCq rfl rfl ?_)))))
      refine zdq ?_
      refine zfq ?_
      refine zEq rfl (fun h1 => ?_) (fun h1 => ?_)
      · exfalso; omega
      · refine ziq (zfq (zcq (zbq (zaq rfl rfl (zaq rfl rfl (zaq rfl rfl (zaq rfl rfl (zeq rfl rfl (zaq rfl rfl (zyq (i) rfl rfl (by first | rfl | omega) ⟨by omega, by omega⟩ ?_))))))))))
        refine zaq rfl (yiq (i := i) rfl rfl rfl rfl rfl rfl rfl hi) (zeq rfl (yYq rfl rfl rfl hw) (zeq rfl rfl (zeq rfl rfl (zdq ?_))))
        refine zfq (zcq (zcq (zbq (zaq rfl rfl (zeq rfl rfl ?_)))))
        refine k6q (fun h2 => ?_) (fun h2 => ?_)
        · refine zaq rfl rfl (zaq rfl rfl (zeq rfl rfl (zaq rfl rfl (zeq rfl rfl ?_))))
          refine jUq rfl (qkq rfl rfl rfl rfl (qOq rfl rfl rfl rfl rfl rfl _ _ 250)) yPq ?_
          refine zaq rfl rfl (zdq ?_)
          refine zfq ?_
          refine zEq rfl (fun h3 => ?_) (fun h3 => ?_)
          · exfalso; exact hk h3
          · refine ziq (zfq (zcq (zbq (zeq rfl rfl (zdq ?_)))))
            refine zfq (zcq (zcq (zbq (zaq rfl rfl (zeq rfl rfl (zdq ?_))))))
            refine zfq (zMq rfl (zbq (zaq rfl rfl (zeq rfl rfl (zaq rfl rfl ?_)))))
            (first | refine ztq rfl rfl rfl rfl rfl rfl (yKq k' d 0 hd hc') ?_ | refine ztq rfl rfl rfl rfl rfl rfl (yKq k d 0 hd hc) ?_)
            refine zaq rfl rfl ?_
            first | refine zaq rfl (z7q rfl rfl rfl rfl rfl rfl rfl (by first | assumption | (simp; done))) ?_ | refine zaq rfl (yiq rfl rfl rfl rfl rfl rfl rfl (by omega)) ?_ | refine zaq rfl (z0q rfl rfl rfl rfl rfl rfl (by omega)) ?_ | refine zaq rfl rfl ?_
            refine zeq rfl rfl (zdq ?_)
            refine zfq (zcq (zbq (zaq rfl rfl (zeq rfl rfl (zaq rfl rfl ?_)))))
            (first | refine ztq rfl rfl rfl rfl rfl rfl (yKq k' d 0 hd hc') ?_ | refine ztq rfl rfl rfl rfl rfl rfl (yKq k d 0 hd hc) ?_)
            refine zaq rfl rfl (zdq ?_)
            refine zfq (zcq (zZq (zhq rfl rfl (zhq rfl rfl ?_))))
            first | refine zhq rfl (z7q rfl rfl rfl rfl rfl rfl rfl (by first | assumption | (simp; done))) ?_ | refine zhq rfl (yiq rfl rfl rfl rfl rfl rfl rfl (by omega)) ?_ | refine zhq rfl (z0q rfl rfl rfl rfl rfl rfl (by omega)) ?_ | refine zhq rfl rfl ?_
            refine zDq rfl rfl ?_
            refine zhq rfl rfl (jEq (d + 1) rfl rfl (by first | rfl | omega) ⟨by omega, by omega⟩ ?_)
            refine zDq rfl rfl ?_
            (refine yIq rfl (yyq 1 rfl rfl rfl rfl (by simp) (by omega) (by show 1 < 5; omega) rfl rfl sp ?_); rintro ns1 m ⟨⟨ms, rfl, hms⟩, hok1, hm⟩; refine ⟨by first | rfl | kernel_rfl, ?_⟩)
            refine zhq rfl rfl (z6q ?_)
            refine zfq (zcq (zbq (zaq rfl rfl (zaq rfl rfl ?_))))
            first | refine zaq rfl (z7q rfl rfl rfl rfl rfl rfl rfl (by first | assumption | (simp; done))) ?_ | refine zaq rfl (yiq rfl rfl rfl rfl rfl rfl rfl (by omega)) ?_ | refine zaq rfl (z0q rfl rfl rfl rfl rfl rfl (by omega)) ?_ | refine zaq rfl rfl ?_
            refine zeq rfl rfl (zdq ?_)
            refine zfq (zcq (zbq (zaq rfl rfl (zeq rfl rfl (ztq rfl rfl rfl rfl rfl rfl (qWq _ _) ?_)))))
            (refine zYq rfl (yyq 5 rfl rfl rfl rfl (by simp) (by omega) (by show 5 < 6; omega) rfl rfl (qvq _ root _ (by simp only [List.length_append]; omega)) ?_); rintro ns2 m2 ⟨rfl, rfl⟩)
            refine zaq rfl rfl (zdq ?_)
            refine zfq (zjq ?_)
            have hm0 : 0 < m := by have := hm.non; rw [ht] at this; simpa using this.symm
            exact jXq 8 6 (.inr rfl) (by omega) (by show 6 < 7; omega) rfl rfl rfl rfl (by rw [if_pos hc, if_pos (hc.trans hc'.symm)]; exact qBq hms hok1 hm (.nil) (by omega))
        · exfalso; exact h2 rfl
    · skip
      rw [if_neg (by omega)] at sp
      refine yrq (fn := Try.f55) rfl rfl rfl (Nat.le_of_ble_eq_true rfl) (fun k0 => ?_)
      refine zcq (zbq (zeq rfl rfl (zaq rfl rfl (zdq ?_))))
      refine zfq (zcq (zcq (zbq (zaq rfl rfl (zCq rfl rfl ?_)))))
      refine zdq ?_
      refine zfq ?_
      refine zEq rfl (fun h1 => ?_) (fun h1 => ?_)
      · exfalso; omega
      · refine ziq (zfq (zcq (zbq (zaq rfl rfl (zaq rfl rfl (zaq rfl rfl (zaq rfl rfl (zeq rfl rfl (zaq rfl rfl (zyq (i) rfl rfl (by first | rfl | omega) ⟨by omega, by omega⟩ ?_))))))))))
        refine zaq rfl (yiq (i := i) rfl rfl rfl rfl rfl rfl rfl hi) (zeq rfl (yYq rfl rfl rfl hw) (zeq rfl rfl (zeq rfl rfl (zdq ?_))))
        refine zfq (zcq (zcq (zbq (zaq rfl rfl (zeq rfl rfl ?_)))))
        refine k6q (fun h2 => ?_) (fun h2 => ?_)
        · refine zaq rfl rfl (zaq rfl rfl (zeq rfl rfl (zaq rfl rfl (zeq rfl rfl ?_))))
          refine jUq rfl (qkq rfl rfl rfl rfl (qOq rfl rfl rfl rfl rfl rfl _ _ 250)) yPq ?_
          refine zaq rfl rfl (zdq ?_)
          refine zfq ?_
          refine zEq rfl (fun h3 => ?_) (fun h3 => ?_)
          · exfalso; exact hk h3
          · refine ziq (zfq (zcq (zbq (zeq rfl rfl (zdq ?_)))))
            refine zfq (zcq (zcq (zbq (zaq rfl rfl (zeq rfl rfl (zdq ?_))))))
            refine zfq (zMq rfl (zbq (zaq rfl rfl (zeq rfl rfl (zaq rfl rfl ?_)))))
            (first | refine ztq rfl rfl rfl rfl rfl rfl (yKq k' d 0 hd hc') ?_ | refine ztq rfl rfl rfl rfl rfl rfl (yKq k d 1 hd hc) ?_)
            refine zaq rfl rfl ?_
            first | refine zaq rfl (z7q rfl rfl rfl rfl rfl rfl rfl (by first | assumption | (simp; done))) ?_ | refine zaq rfl (yiq rfl rfl rfl rfl rfl rfl rfl (by omega)) ?_ | refine zaq rfl (z0q rfl rfl rfl rfl rfl rfl (by omega)) ?_ | refine zaq rfl rfl ?_
            refine zeq rfl rfl (zdq ?_)
            refine zfq (zcq (zbq (zaq rfl rfl (zeq rfl rfl (zaq rfl rfl ?_)))))
            (first | refine ztq rfl rfl rfl rfl rfl rfl (yKq k' d 0 hd hc') ?_ | refine ztq rfl rfl rfl rfl rfl rfl (yKq k d 1 hd hc) ?_)
            refine zaq rfl rfl (zdq ?_)
            refine zfq (zcq (zZq (zhq rfl rfl (zhq rfl rfl ?_))))
            first | refine zhq rfl (z7q rfl rfl rfl rfl rfl rfl rfl (by first | assumption | (simp; done))) ?_ | refine zhq rfl (yiq rfl rfl rfl rfl rfl rfl rfl (by omega)) ?_ | refine zhq rfl (z0q rfl rfl rfl rfl rfl rfl (by omega)) ?_ | refine zhq rfl rfl ?_
            refine zDq rfl rfl ?_
            refine zhq rfl rfl (jEq (d + 1) rfl rfl (by first | rfl | omega) ⟨by omega, by omega⟩ ?_)
            refine zDq rfl rfl ?_
            (refine yIq rfl (yyq 1 rfl rfl rfl rfl (by simp) (by omega) (by show 1 < 5; omega) rfl rfl sp ?_); rintro ns1 m ⟨⟨ms, rfl, hms⟩, hok1, hm⟩; refine ⟨by first | rfl | kernel_rfl, ?_⟩)
            refine zhq rfl rfl (z6q ?_)
            refine zfq (zcq (zbq (zaq rfl rfl (zaq rfl rfl ?_))))
            first | refine zaq rfl (z7q rfl rfl rfl rfl rfl rfl rfl (by first | assumption | (simp; done))) ?_ | refine zaq rfl (yiq rfl rfl rfl rfl rfl rfl rfl (by omega)) ?_ | refine zaq rfl (z0q rfl rfl rfl rfl rfl rfl (by omega)) ?_ | refine zaq rfl rfl ?_
            refine zeq rfl rfl (zdq ?_)
            refine zfq (zcq (zbq (zaq rfl rfl (zeq rfl rfl (ztq rfl rfl rfl rfl rfl rfl (qWq _ _) ?_)))))
            (refine zYq rfl (yyq 5 rfl rfl rfl rfl (by simp) (by omega) (by show 5 < 6; omega) rfl rfl (qvq _ root _ (by simp only [List.length_append]; omega)) ?_); rintro ns2 m2 ⟨rfl, rfl⟩)
            refine zaq rfl rfl (zdq ?_)
            refine zfq (zjq ?_)
            have hm0 : 0 < m := by have := hm.non; rw [ht] at this; simpa using this.symm
            exact jXq 8 6 (.inr rfl) (by omega) (by show 6 < 7; omega) rfl rfl rfl rfl (by rw [if_neg (by omega), if_neg (by omega)]; exact qBq hms hok1 ((Rep.leaf hx).app _) hm (by omega))
        · exfalso; exact h2 rfl
    · skip
      rw [if_neg (by omega)] at sp
      refine yrq (fn := Try.f55) rfl rfl rfl (Nat.le_of_ble_eq_true rfl) (fun k0 => ?_)
      refine zcq (zbq (zeq rfl rfl (zaq rfl rfl (zdq ?_))))
      refine zfq (zcq (zcq (zbq (zaq rfl rfl (zCq rfl rfl ?_)))))
      refine zdq ?_
      refine zfq ?_
      refine zEq rfl (fun h1 => ?_) (fun h1 => ?_)
      · exfalso; omega
      · refine ziq (zfq (zcq (zbq (zaq rfl rfl (zaq rfl rfl (zaq rfl rfl (zaq rfl rfl (zeq rfl rfl (zaq rfl rfl (zyq (i) rfl rfl (by first | rfl | omega) ⟨by omega, by omega⟩ ?_))))))))))
        refine zaq rfl (yiq (i := i) rfl rfl rfl rfl rfl rfl rfl hi) (zeq rfl (yYq rfl rfl rfl hw) (zeq rfl rfl (zeq rfl rfl (zdq ?_))))
        refine zfq (zcq (zcq (zbq (zaq rfl rfl (zeq rfl rfl ?_)))))
        refine k6q (fun h2 => ?_) (fun h2 => ?_)
        · refine zaq rfl rfl (zaq rfl rfl (zeq rfl rfl (zaq rfl rfl (zeq rfl rfl ?_))))
          refine jUq rfl (qkq rfl rfl rfl rfl (qOq rfl rfl rfl rfl rfl rfl _ _ 250)) yPq ?_
          refine zaq rfl rfl (zdq ?_)
          refine zfq ?_
          refine zEq rfl (fun h3 => ?_) (fun h3 => ?_)
          · exfalso; exact hk h3
          · refine ziq (zfq (zcq (zbq (zeq rfl rfl (zdq ?_)))))
            refine zfq (zcq (zcq (zbq (zaq rfl rfl (zeq rfl rfl (zdq ?_))))))
            refine zfq (zMq rfl (zbq (zaq rfl rfl (zeq rfl rfl (zaq rfl rfl ?_)))))
            (first | refine ztq rfl rfl rfl rfl rfl rfl (yKq k' d 1 hd hc') ?_ | refine ztq rfl rfl rfl rfl rfl rfl (yKq k d 0 hd hc) ?_)
            refine zaq rfl rfl ?_
            first | refine zaq rfl (z7q rfl rfl rfl rfl rfl rfl rfl (by first | assumption | (simp; done))) ?_ | refine zaq rfl (yiq rfl rfl rfl rfl rfl rfl rfl (by omega)) ?_ | refine zaq rfl (z0q rfl rfl rfl rfl rfl rfl (by omega)) ?_ | refine zaq rfl rfl ?_
            refine zeq rfl rfl (zdq ?_)
            refine zfq (zcq (zbq (zaq rfl rfl (zeq rfl rfl (zaq rfl rfl ?_)))))
            (first | refine ztq rfl rfl rfl rfl rfl rfl (yKq k' d 1 hd hc') ?_ | refine ztq rfl rfl rfl rfl rfl rfl (yKq k d 0 hd hc) ?_)
            refine zaq rfl rfl (zdq ?_)
            refine zfq (zcq (zZq (zhq rfl rfl (zhq rfl rfl ?_))))
            first | refine zhq rfl (z7q rfl rfl rfl rfl rfl rfl rfl (by first | assumption | (simp; done))) ?_ | refine zhq rfl (yiq rfl rfl rfl rfl rfl rfl rfl (by omega)) ?_ | refine zhq rfl (z0q rfl rfl rfl rfl rfl rfl (by omega)) ?_ | refine zhq rfl rfl ?_
            refine zDq rfl rfl ?_
            refine zhq rfl rfl (jEq (d + 1) rfl rfl (by first | rfl | omega) ⟨by omega, by omega⟩ ?_)
            refine zDq rfl rfl ?_
            (refine yIq rfl (yyq 1 rfl rfl rfl rfl (by simp) (by omega) (by show 1 < 5; omega) rfl rfl sp ?_); rintro ns1 m ⟨⟨ms, rfl, hms⟩, hok1, hm⟩; refine ⟨by first | rfl | kernel_rfl, ?_⟩)
            refine zhq rfl rfl (z6q ?_)
            refine zfq (zcq (zbq (zaq rfl rfl (zaq rfl rfl ?_))))
            first | refine zaq rfl (z7q rfl rfl rfl rfl rfl rfl rfl (by first | assumption | (simp; done))) ?_ | refine zaq rfl (yiq rfl rfl rfl rfl rfl rfl rfl (by omega)) ?_ | refine zaq rfl (z0q rfl rfl rfl rfl rfl rfl (by omega)) ?_ | refine zaq rfl rfl ?_
            refine zeq rfl rfl (zdq ?_)
            refine zfq (zcq (zbq (zaq rfl rfl (zeq rfl rfl (ztq rfl rfl rfl rfl rfl rfl (qWq _ _) ?_)))))
            (refine zYq rfl (yyq 5 rfl rfl rfl rfl (by simp) (by omega) (by show 5 < 6; omega) rfl rfl (qvq _ root _ (by simp only [List.length_append]; omega)) ?_); rintro ns2 m2 ⟨rfl, rfl⟩)
            refine zaq rfl rfl (zdq ?_)
            refine zfq (zjq ?_)
            have hm0 : 0 < m := by have := hm.non; rw [ht] at this; simpa using this.symm
            exact jXq 8 6 (.inr rfl) (by omega) (by show 6 < 7; omega) rfl rfl rfl rfl (by rw [if_pos hc, if_neg (by omega)]; exact qBq hms hok1 hm ((Rep.leaf hx).app _) (by omega))
        · exfalso; exact h2 rfl
    · skip
      rw [if_pos (hc.trans hc'.symm)] at sp
      refine yrq (fn := Try.f55) rfl rfl rfl (Nat.le_of_ble_eq_true rfl) (fun k0 => ?_)
      refine zcq (zbq (zeq rfl rfl (zaq rfl rfl (zdq ?_))))
      refine zfq (zcq (zcq (zbq (zaq rfl rfl (zCq rfl rfl ?_)))))
      refine zdq ?_
      refine zfq ?_
      refine zEq rfl (fun h1 => ?_) (fun h1 => ?_)
      · exfalso; omega
      · refine ziq (zfq (zcq (zbq (zaq rfl rfl (zaq rfl rfl (zaq rfl rfl (zaq rfl rfl (zeq rfl rfl (zaq rfl rfl (zyq (i) rfl rfl (by first | rfl | omega) ⟨by omega, by omega⟩ ?_))))))))))
        refine zaq rfl (yiq (i := i) rfl rfl rfl rfl rfl rfl rfl hi) (zeq rfl (yYq rfl rfl rfl hw) (zeq rfl rfl (zeq rfl rfl (zdq ?_))))
        refine zfq (zcq (zcq (zbq (zaq rfl rfl (zeq rfl rfl ?_)))))
        refine k6q (fun h2 => ?_) (fun h2 => ?_)
        · refine zaq rfl rfl (zaq rfl rfl (zeq rfl rfl (zaq rfl rfl (zeq rfl rfl ?_))))
          refine jUq rfl (qkq rfl rfl rfl rfl (qOq rfl rfl rfl rfl rfl rfl _ _ 250)) yPq ?_
          refine zaq rfl rfl (zdq ?_)
          refine zfq ?_
          refine zEq rfl (fun h3 => ?_) (fun h3 => ?_)
          · exfalso; exact hk h3
          · refine ziq (zfq (zcq (zbq (zeq rfl rfl (zdq ?_)))))
            refine zfq (zcq (zcq (zbq (zaq rfl rfl (zeq rfl rfl (zdq ?_))))))
            refine zfq (zMq rfl (zbq (zaq rfl rfl (zeq rfl rfl (zaq rfl rfl ?_)))))
            (first | refine ztq rfl rfl rfl rfl rfl rfl (yKq k' d 1 hd hc') ?_ | refine ztq rfl rfl rfl rfl rfl rfl (yKq k d 1 hd hc) ?_)
            refine zaq rfl rfl ?_
            first | refine zaq rfl (z7q rfl rfl rfl rfl rfl rfl rfl (by first | assumption | (simp; done))) ?_ | refine zaq rfl (yiq rfl rfl rfl rfl rfl rfl rfl (by omega)) ?_ | refine zaq rfl (z0q rfl rfl rfl rfl rfl rfl (by omega)) ?_ | refine zaq rfl rfl ?_
            refine zeq rfl rfl (zdq ?_)
            refine zfq (zcq (zbq (zaq rfl rfl (zeq rfl rfl (zaq rfl rfl ?_)))))
            (first | refine ztq rfl rfl rfl rfl rfl rfl (yKq k' d 1 hd hc') ?_ | refine ztq rfl rfl rfl rfl rfl rfl (yKq k d 1 hd hc) ?_)
            refine zaq rfl rfl (zdq ?_)
            refine zfq (zcq (zZq (zhq rfl rfl (zhq rfl rfl ?_))))
            first | refine zhq rfl (z7q rfl rfl rfl rfl rfl rfl rfl (by first | assumption | (simp; done))) ?_ | refine zhq rfl (yiq rfl rfl rfl rfl rfl rfl rfl (by omega)) ?_ | refine zhq rfl (z0q rfl rfl rfl rfl rfl rfl (by omega)) ?_ | refine zhq rfl rfl ?_
            refine zDq rfl rfl ?_
            refine zhq rfl rfl (jEq (d + 1) rfl rfl (by first | rfl | omega) ⟨by omega, by omega⟩ ?_)
            refine zDq rfl rfl ?_
            (refine yIq rfl (yyq 1 rfl rfl rfl rfl (by simp) (by omega) (by show 1 < 5; omega) rfl rfl sp ?_); rintro ns1 m ⟨⟨ms, rfl, hms⟩, hok1, hm⟩; refine ⟨by first | rfl | kernel_rfl, ?_⟩)
            refine zhq rfl rfl (z6q ?_)
            refine zfq (zcq (zbq (zaq rfl rfl (zaq rfl rfl ?_))))
            first | refine zaq rfl (z7q rfl rfl rfl rfl rfl rfl rfl (by first | assumption | (simp; done))) ?_ | refine zaq rfl (yiq rfl rfl rfl rfl rfl rfl rfl (by omega)) ?_ | refine zaq rfl (z0q rfl rfl rfl rfl rfl rfl (by omega)) ?_ | refine zaq rfl rfl ?_
            refine zeq rfl rfl (zdq ?_)
            refine zfq (zcq (zbq (zaq rfl rfl (zeq rfl rfl (ztq rfl rfl rfl rfl rfl rfl (qWq _ _) ?_)))))
            (refine zYq rfl (yyq 5 rfl rfl rfl rfl (by simp) (by omega) (by show 5 < 6; omega) rfl rfl (qvq _ root _ (by simp only [List.length_append]; omega)) ?_); rintro ns2 m2 ⟨rfl, rfl⟩)
            refine zaq rfl rfl (zdq ?_)
            refine zfq (zjq ?_)
            have hm0 : 0 < m := by have := hm.non; rw [ht] at this; simpa using this.symm
            exact jXq 8 6 (.inr rfl) (by omega) (by show 6 < 7; omega) rfl rfl rfl rfl (by rw [if_neg (by omega), if_pos (hc.trans hc'.symm)]; exact qBq hms hok1 (.nil) hm (by omega))
        · exfalso; exact h2 rfl
  · rcases hc' with hc' | hc' <;> rcases hc with hc | hc
    · skip
      rw [if_pos (hc.trans hc'.symm)] at sp
      refine yrq (fn := Try.f55) rfl rfl rfl (Nat.le_of_ble_eq_true rfl) (fun k0 => ?_)
      refine zcq (zbq (zeq rfl rfl (zaq rfl rfl (zdq ?_))))
      refine zfq (zcq (zcq (zbq (zaq rfl rfl (zCq rfl rfl ?_)))))
      refine zdq ?_
      refine zfq ?_
      refine zEq rfl (fun h1 => ?_) (fun h1 => ?_)
      · exfalso; omega
      · refine ziq (zfq (zcq (zbq (zaq rfl rfl (zaq rfl rfl (zaq rfl rfl (zaq rfl rfl (zeq rfl rfl (zaq rfl rfl (zyq (i) rfl rfl (by first | rfl | omega) ⟨by omega, by omega⟩ ?_))))))))))
        refine zaq rfl (yiq (i := i) rfl rfl rfl rfl rfl rfl rfl hi) (zeq rfl (yYq rfl rfl rfl hw) (zeq rfl rfl (zeq rfl rfl (zdq ?_))))
        refine zfq (zcq (zcq (zbq (zaq rfl rfl (zeq rfl rfl ?_)))))
        refine k6q (fun h2 => ?_) (fun h2 => ?_)
        · refine zaq rfl rfl (zaq rfl rfl (zeq rfl rfl (zaq rfl rfl (zeq rfl rfl ?_))))
          refine jUq rfl (qkq rfl rfl rfl rfl (qOq rfl rfl rfl rfl rfl rfl _ _ 250)) yPq ?_
          refine zaq rfl rfl (zdq ?_)
          refine zfq ?_
          refine zEq rfl (fun h3 => ?_) (fun h3 => ?_)
          · exfalso; exact hk h3
          · refine ziq (zfq (zcq (zbq (zeq rfl rfl (zdq ?_)))))
            refine zfq (zcq (zcq (zbq (zaq rfl rfl (zeq rfl rfl (zdq ?_))))))
            refine zfq (zMq rfl (zbq (zaq rfl rfl (zeq rfl rfl (zaq rfl rfl ?_)))))
            (first | refine ztq rfl rfl rfl rfl rfl rfl (yKq k' d 0 hd hc') ?_ | refine ztq rfl rfl rfl rfl rfl rfl (yKq k d 0 hd hc) ?_)
            refine zaq rfl rfl ?_
            first | refine zaq rfl (z7q rfl rfl rfl rfl rfl rfl rfl (by first | assumption | (simp; done))) ?_ | refine zaq rfl (yiq rfl rfl rfl rfl rfl rfl rfl (by omega)) ?_ | refine zaq rfl (z0q rfl rfl rfl rfl rfl rfl (by omega)) ?_ | refine zaq rfl rfl ?_
            refine zeq rfl rfl (zdq ?_)
            refine zfq (zcq (zbq (zaq rfl rfl (zeq rfl rfl (zaq rfl rfl ?_)))))
            (first | refine ztq rfl rfl rfl rfl rfl rfl (yKq k' d 0 hd hc') ?_ | refine ztq rfl rfl rfl rfl rfl rfl (yKq k d 0 hd hc) ?_)
            refine zaq rfl rfl (zdq ?_)
            refine zfq (zcq (zZq (zhq rfl rfl (zhq rfl rfl ?_))))
            first | refine zhq rfl (z7q rfl rfl rfl rfl rfl rfl rfl (by first | assumption | (simp; done))) ?_ | refine zhq rfl (yiq rfl rfl rfl rfl rfl rfl rfl (by omega)) ?_ | refine zhq rfl (z0q rfl rfl rfl rfl rfl rfl (by omega)) ?_ | refine zhq rfl rfl ?_
            refine zDq rfl rfl ?_
            refine zhq rfl rfl (jEq (d + 1) rfl rfl (by first | rfl | omega) ⟨by omega, by omega⟩ ?_)
            refine zDq rfl rfl ?_
            (refine yIq rfl (yyq 1 rfl rfl rfl rfl (by simp) (by omega) (by show 1 < 5; omega) rfl rfl sp ?_); rintro ns1 m ⟨⟨ms, rfl, hms⟩, hok1, hm⟩; refine ⟨by first | rfl | kernel_rfl, ?_⟩)
            refine zhq rfl rfl (z6q ?_)
            refine zfq (zcq (zbq (zaq rfl rfl (zaq rfl rfl ?_))))
            first | refine zaq rfl (z7q rfl rfl rfl rfl rfl rfl rfl (by first | assumption | (simp; done))) ?_ | refine zaq rfl (yiq rfl rfl rfl rfl rfl rfl rfl (by omega)) ?_ | refine zaq rfl (z0q rfl rfl rfl rfl rfl rfl (by omega)) ?_ | refine zaq rfl rfl ?_
            refine zeq rfl rfl (zdq ?_)
            refine zfq (zcq (zbq (zaq rfl rfl (zeq rfl rfl (ztq rfl rfl rfl rfl rfl rfl (qWq _ _) ?_)))))
            (refine zYq rfl (yyq 5 rfl rfl rfl rfl (by simp) (by omega) (by show 5 < 6; omega) rfl rfl (qvq _ root _ (by simp only [List.length_append]; omega)) ?_); rintro ns2 m2 ⟨rfl, rfl⟩)
            refine zaq rfl rfl (zdq ?_)
            refine zfq (zjq ?_)
            have hm0 : 0 < m := by have := hm.non; rw [ht] at this; simpa using this.symm
            exact jXq 8 6 (.inr rfl) (by omega) (by show 6 < 7; omega) rfl rfl rfl rfl (by rw [if_pos hc, if_pos (hc.trans hc'.symm)]; exact qBq hms hok1 hm (.nil) (by omega))
        · exfalso; exact h2 rfl
    · skip
      rw [if_neg (by omega)] at sp
      refine yrq (fn := Try.f55) rfl rfl rfl (Nat.le_of_ble_eq_true rfl) (fun k0 => ?_)
      refine zcq (zbq (zeq rfl rfl (zaq rfl rfl (zdq ?_))))
      refine zfq (zcq (zcq (zbq (zaq rfl rfl (zCq rfl rfl ?_)))))
      refine zdq ?_
      refine zfq ?_
      refine zEq rfl (fun h1 => ?_) (fun h1 => ?_)
      · exfalso; omega
      · refine ziq (zfq (zcq (zbq (zaq rfl rfl (zaq rfl rfl (zaq rfl rfl (zaq rfl rfl (zeq rfl rfl (zaq rfl rfl (zyq (i) rfl rfl (by first | rfl | omega) ⟨by omega, by omega⟩ ?_))))))))))
        refine zaq rfl (yiq (i := i) rfl rfl rfl rfl rfl rfl rfl hi) (zeq rfl (yYq rfl rfl rfl hw) (zeq rfl rfl (zeq rfl rfl (zdq ?_))))
        refine zfq (zcq (zcq (zbq (zaq rfl rfl (zeq rfl rfl ?_)))))
        refine k6q (fun h2 => ?_) (fun h2 => ?_)
        · refine zaq rfl rfl (zaq rfl rfl (zeq rfl rfl (zaq rfl rfl (zeq rfl rfl ?_))))
          refine jUq rfl (qkq rfl rfl rfl rfl (qOq rfl rfl rfl rfl rfl rfl _ _ 250)) yPq ?_
          refine zaq rfl rfl (zdq ?_)
          refine zfq ?_
          refine zEq rfl (fun h3 => ?_) (fun h3 => ?_)
          · exfalso; exact hk h3
          · refine ziq (zfq (zcq (zbq (zeq rfl rfl (zdq ?_)))))
            refine zfq (zcq (zcq (zbq (zaq rfl rfl (zeq rfl rfl (zdq ?_))))))
            refine zfq (zMq rfl (zbq (zaq rfl rfl (zeq rfl rfl (zaq rfl rfl ?_)))))
            (first | refine ztq rfl rfl rfl rfl rfl rfl (yKq k' d 0 hd hc') ?_ | refine ztq rfl rfl rfl rfl rfl rfl (yKq k d 1 hd hc) ?_)
            refine zaq rfl rfl ?_
            first | refine zaq rfl (z7q rfl rfl rfl rfl rfl rfl rfl (by first | assumption | (simp; done))) ?_ | refine zaq rfl (yiq rfl rfl rfl rfl rfl rfl rfl (by omega)) ?_ | refine zaq rfl (z0q rfl rfl rfl rfl rfl rfl (by omega)) ?_ | refine zaq rfl rfl ?_
            refine zeq rfl rfl (zdq ?_)
            refine zfq (zcq (zbq (zaq rfl rfl (zeq rfl rfl (zaq rfl rfl ?_)))))
            (first | refine ztq rfl rfl rfl rfl rfl rfl (yKq k' d 0 hd hc') ?_ | refine ztq rfl rfl rfl rfl rfl rfl (yKq k d 1 hd hc) ?_)
            refine zaq rfl rfl (zdq ?_)
            refine zfq (zcq (zZq (zhq rfl rfl (zhq rfl rfl ?_))))
            first | refine zhq rfl (z7q rfl rfl rfl rfl rfl rfl rfl (by first | assumption | (simp; done))) ?_ | refine zhq rfl (yiq rfl rfl rfl rfl rfl rfl rfl (by omega)) ?_ | refine zhq rfl (z0q rfl rfl rfl rfl rfl rfl (by omega)) ?_ | refine zhq rfl rfl ?_
            refine zDq rfl rfl ?_
            refine zhq rfl rfl (jEq (d + 1) rfl rfl (by first | rfl | omega) ⟨by omega, by omega⟩ ?_)
            refine zDq rfl rfl ?_
            (refine yIq rfl (yyq 1 rfl rfl rfl rfl (by simp) (by omega) (by show 1 < 5; omega) rfl rfl sp ?_); rintro ns1 m ⟨⟨ms, rfl, hms⟩, hok1, hm⟩; refine ⟨by first | rfl | kernel_rfl, ?_⟩)
            refine zhq rfl rfl (z6q ?_)
            refine zfq (zcq (zbq (zaq rfl rfl (zaq rfl rfl ?_))))
            first | refine zaq rfl (z7q rfl rfl rfl rfl rfl rfl rfl (by first | assumption | (simp; done))) ?_ | refine zaq rfl (yiq rfl rfl rfl rfl rfl rfl rfl (by omega)) ?_ | refine zaq rfl (z0q rfl rfl rfl rfl rfl rfl (by omega)) ?_ | refine zaq rfl rfl ?_
            refine zeq rfl rfl (zdq ?_)
            refine zfq (zcq (zbq (zaq rfl rfl (zeq rfl rfl (ztq rfl rfl rfl rfl rfl rfl (qWq _ _) ?_)))))
            (refine zYq rfl (yyq 5 rfl rfl rfl rfl (by simp) (by omega) (by show 5 < 6; omega) rfl rfl (qvq _ root _ (by simp only [List.length_append]; omega)) ?_); rintro ns2 m2 ⟨rfl, rfl⟩)
            refine zaq rfl rfl (zdq ?_)
            refine zfq (zjq ?_)
            have hm0 : 0 < m := by have := hm.non; rw [ht] at this; simpa using this.symm
            exact jXq 8 6 (.inr rfl) (by omega) (by show 6 < 7; omega) rfl rfl rfl rfl (by rw [if_neg (by omega), if_neg (by omega)]; exact qBq hms hok1 ((Rep.leaf hx).app _) hm (by omega))
        · exfalso; exact h2 rfl
    · skip
      rw [if_neg (by omega)] at sp
      refine yrq (fn := Try.f55) rfl rfl rfl (Nat.le_of_ble_eq_true rfl) (fun k0 => ?_)
      refine zcq (zbq (zeq rfl rfl (zaq rfl rfl (zdq ?_))))
      refine zfq (zcq (zcq (zbq (zaq rfl rfl (zCq rfl rfl ?_)))))
      refine zdq ?_
      refine zfq ?_
      refine zEq rfl (fun h1 => ?_) (fun h1 => ?_)
      · exfalso; omega
      · refine ziq (zfq (zcq (zbq (zaq rfl rfl (zaq rfl rfl (zaq rfl rfl (zaq rfl rfl (zeq rfl rfl (zaq rfl rfl (zyq (i) rfl rfl (by first | rfl | omega) ⟨by omega, by omega⟩ ?_))))))))))
        refine zaq rfl (yiq (i := i) rfl rfl rfl rfl rfl rfl rfl hi) (zeq rfl (yYq rfl rfl rfl hw) (zeq rfl rfl (zeq rfl rfl (zdq ?_))))
        refine zfq (zcq (zcq (zbq (zaq rfl rfl (zeq rfl rfl ?_)))))
        refine k6q (fun h2 => ?_) (fun h2 => ?_)
        · refine zaq rfl rfl (zaq rfl rfl (zeq rfl rfl (zaq rfl rfl (zeq rfl rfl ?_))))
          refine jUq rfl (qkq rfl rfl rfl rfl (qOq rfl rfl rfl rfl rfl rfl _ _ 250)) yPq ?_
          refine zaq rfl rfl (zdq ?_)
          refine zfq ?_
          refine zEq rfl (fun h3 => ?_) (fun h3 => ?_)
          · exfalso; exact hk h3
          · refine ziq (zfq (zcq (zbq (zeq rfl rfl (zdq ?_)))))
            refine zfq (zcq (zcq (zbq (zaq rfl rfl (zeq rfl rfl (zdq ?_))))))
            refine zfq (zMq rfl (zbq (zaq rfl rfl (zeq rfl rfl (zaq rfl rfl ?_)))))
            (first | refine ztq rfl rfl rfl rfl rfl rfl (yKq k' d 1 hd hc') ?_ | refine ztq rfl rfl rfl rfl rfl rfl (yKq k d 0 hd hc) ?_)
            refine zaq rfl rfl ?_
            first | refine zaq rfl (z7q rfl rfl rfl rfl rfl rfl rfl (by first | assumption | (simp; done))) ?_ | refine zaq rfl (yiq rfl rfl rfl rfl rfl rfl rfl (by omega)) ?_ | refine zaq rfl (z0q rfl rfl rfl rfl rfl rfl (by omega)) ?_ | refine zaq rfl rfl ?_
            refine zeq rfl rfl (zdq ?_)
            refine zfq (zcq (zbq (zaq rfl rfl (zeq rfl rfl (zaq rfl rfl ?_)))))
            (first | refine ztq rfl rfl rfl rfl rfl rfl (yKq k' d 1 hd hc') ?_ | refine ztq rfl rfl rfl rfl rfl rfl (yKq k d 0 hd hc) ?_)
            refine zaq rfl rfl (zdq ?_)
            refine zfq (zcq (zZq (zhq rfl rfl (zhq rfl rfl ?_))))
            first | refine zhq rfl (z7q rfl rfl rfl rfl rfl rfl rfl (by first | assumption | (simp; done))) ?_ | refine zhq rfl (yiq rfl rfl rfl rfl rfl rfl rfl (by omega)) ?_ | refine zhq rfl (z0q rfl rfl rfl rfl rfl rfl (by omega)) ?_ | refine zhq rfl rfl ?_
            refine zDq rfl rfl ?_
            refine zhq rfl rfl (jEq (d + 1) rfl rfl (by first | rfl | omega) ⟨by omega, by omega⟩ ?_)
            refine zDq rfl rfl ?_
            (refine yIq rfl (yyq 1 rfl rfl rfl rfl (by simp) (by omega) (by show 1 < 5; omega) rfl rfl sp ?_); rintro ns1 m ⟨⟨ms, rfl, hms⟩, hok1, hm⟩; refine ⟨by first | rfl | kernel_rfl, ?_⟩)
            refine zhq rfl rfl (z6q ?_)
            refine zfq (zcq (zbq (zaq rfl rfl (zaq rfl rfl ?_))))
            first | refine zaq rfl (z7q rfl rfl rfl rfl rfl rfl rfl (by first | assumption | (simp; done))) ?_ | refine zaq rfl (yiq rfl rfl rfl rfl rfl rfl rfl (by omega)) ?_ | refine zaq rfl (z0q rfl rfl rfl rfl rfl rfl (by omega)) ?_ | refine zaq rfl rfl ?_
            refine zeq rfl rfl (zdq ?_)
            refine zfq (zcq (zbq (zaq rfl rfl (zeq rfl rfl (ztq rfl rfl rfl rfl rfl rfl (qWq _ _) ?_)))))
            (refine zYq rfl (yyq 5 rfl rfl rfl rfl (by simp) (by omega) (by show 5 < 6; omega) rfl rfl (qvq _ root _ (by simp only [List.length_append]; omega)) ?_); rintro ns2 m2 ⟨rfl, rfl⟩)
            refine zaq rfl rfl (zdq ?_)
            refine zfq (zjq ?_)
            have hm0 : 0 < m := by have := hm.non; rw [ht] at this; simpa using this.symm
            exact jXq 8 6 (.inr rfl) (by omega) (by show 6 < 7; omega) rfl rfl rfl rfl (by rw [if_pos hc, if_neg (by omega)]; exact qBq hms hok1 hm ((Rep.leaf hx).app _) (by omega))
        · exfalso; exact h2 rfl
    · skip
      rw [if_pos (hc.trans hc'.symm)] at sp
      refine yrq (fn := Try.f55) rfl rfl rfl (Nat.le_of_ble_eq_true rfl) (fun k0 => ?_)
      refine zcq (zbq (zeq rfl rfl (zaq rfl rfl (zdq ?_))))
      refine zfq (zcq (zcq (zbq (zaq rfl rfl (zCq rfl rfl ?_)))))
      refine zdq ?_
      refine zfq ?_
      refine zEq rfl (fun h1 => ?_) (fun h1 => ?_)
      · exfalso; omega
      · refine ziq (zfq (zcq (zbq (zaq rfl rfl (zaq rfl rfl (zaq rfl rfl (zaq rfl rfl (zeq rfl rfl (zaq rfl rfl (zyq (i) rfl rfl (by first | rfl | omega) ⟨by omega, by omega⟩ ?_))))))))))
        refine zaq rfl (yiq (i := i) rfl rfl rfl rfl rfl rfl rfl hi) (zeq rfl (yYq rfl rfl rfl hw) (zeq rfl rfl (zeq rfl rfl (zdq ?_))))
        refine zfq (zcq (zcq (zbq (zaq rfl rfl (zeq rfl rfl ?_)))))
        refine k6q (fun h2 => ?_) (fun h2 => ?_)
        · refine zaq rfl rfl (zaq rfl rfl (zeq rfl rfl (zaq rfl rfl (zeq rfl rfl ?_))))
          refine jUq rfl (qkq rfl rfl rfl rfl (qOq rfl rfl rfl rfl rfl rfl _ _ 250)) yPq ?_
          refine zaq rfl rfl (zdq ?_)
          refine zfq ?_
          refine zEq rfl (fun h3 => ?_) (fun h3 => ?_)
          · exfalso; exact hk h3
          · refine ziq (zfq (zcq (zbq (zeq rfl rfl (zdq ?_)))))
            refine zfq (zcq (zcq (zbq (zaq rfl rfl (zeq rfl rfl (zdq ?_))))))
            refine zfq (zMq rfl (zbq (zaq rfl rfl (zeq rfl rfl (zaq rfl rfl ?_)))))
            (first | refine ztq rfl rfl rfl rfl rfl rfl (yKq k' d 1 hd hc') ?_ | refine ztq rfl rfl rfl rfl rfl rfl (yKq k d 1 hd hc) ?_)
            refine zaq rfl rfl ?_
            first | refine zaq rfl (z7q rfl rfl rfl rfl rfl rfl rfl (by first | assumption | (simp; done))) ?_ | refine zaq rfl (yiq rfl rfl rfl rfl rfl rfl rfl (by omega)) ?_ | refine zaq rfl (z0q rfl rfl rfl rfl rfl rfl (by omega)) ?_ | refine zaq rfl rfl ?_
            refine zeq rfl rfl (zdq ?_)
            refine zfq (zcq (zbq (zaq rfl rfl (zeq rfl rfl (zaq rfl rfl ?_)))))
            (first | refine ztq rfl rfl rfl rfl rfl rfl (yKq k' d 1 hd hc') ?_ | refine ztq rfl rfl rfl rfl rfl rfl (yKq k d 1 hd hc) ?_)
            refine zaq rfl rfl (zdq ?_)
            refine zfq (zcq (zZq (zhq rfl rfl (zhq rfl rfl ?_))))
            first | refine zhq rfl (z7q rfl rfl rfl rfl rfl rfl rfl (by first | assumption | (simp; done))) ?_ | refine zhq rfl (yiq rfl rfl rfl rfl rfl rfl rfl (by omega)) ?_ | refine zhq rfl (z0q rfl rfl rfl rfl rfl rfl (by omega)) ?_ | refine zhq rfl rfl ?_
            refine zDq rfl rfl ?_
            refine zhq rfl rfl (jEq (d + 1) rfl rfl (by first | rfl | omega) ⟨by omega, by omega⟩ ?_)
            refine zDq rfl rfl ?_
            (refine yIq rfl (yyq 1 rfl rfl rfl rfl (by simp) (by omega) (by show 1 < 5; omega) rfl rfl sp ?_); rintro ns1 m ⟨⟨ms, rfl, hms⟩, hok1, hm⟩; refine ⟨by first | rfl | kernel_rfl, ?_⟩)
            refine zhq rfl rfl (z6q ?_)
            refine zfq (zcq (zbq (zaq rfl rfl (zaq rfl rfl ?_))))
            first | refine zaq rfl (z7q rfl rfl rfl rfl rfl rfl rfl (by first | assumption | (simp; done))) ?_ | refine zaq rfl (yiq rfl rfl rfl rfl rfl rfl rfl (by omega)) ?_ | refine zaq rfl (z0q rfl rfl rfl rfl rfl rfl (by omega)) ?_ | refine zaq rfl rfl ?_
            refine zeq rfl rfl (zdq ?_)
            refine zfq (zcq (zbq (zaq rfl rfl (zeq rfl rfl (ztq rfl rfl rfl rfl rfl rfl (qWq _ _) ?_)))))
            (refine zYq rfl (yyq 5 rfl rfl rfl rfl (by simp) (by omega) (by show 5 < 6; omega) rfl rfl (qvq _ root _ (by simp only [List.length_append]; omega)) ?_); rintro ns2 m2 ⟨rfl, rfl⟩)
            refine zaq rfl rfl (zdq ?_)
            refine zfq (zjq ?_)
            have hm0 : 0 < m := by have := hm.non; rw [ht] at this; simpa using this.symm
            exact jXq 8 6 (.inr rfl) (by omega) (by show 6 < 7; omega) rfl rfl rfl rfl (by rw [if_neg (by omega), if_pos (hc.trans hc'.symm)]; exact qBq hms hok1 (.nil) hm (by omega))
        · exfalso; exact h2 rfl
theorem fork_one {ns : List Node} {i l r : Nat} {k' : Dig} {v' : List UInt8} (hx : ns[i]? = some ⟨false, k', v', l, r⟩) (hok : okN ns) : k' = qSq ∧ v' = [] ∧ l ≤ i ∧ r ≤ i ∧ 0 < l + r := by
  have h := hok i _ hx
  simp only [oneB, Bool.false_eq_true, if_false] at h
  obtain ⟨⟨_, a2⟩, ⟨_, b2⟩, h1, h2, h3⟩ := h
  exact ⟨h1, h2, by omega, by omega, by omega⟩
theorem fork_all {ns : List Node} {i l r : Nat} {k' : Dig} {v' : List UInt8} (hx : ns[i]? = some ⟨false, k', v', l, r⟩) (hok : okN ns) : yDq 50 (nsW ns) (0 + i * 36) 36 true = some (nW ⟨false, k', v', l, r⟩) := by
  obtain ⟨w, hw, rfl | ⟨h1, rfl⟩⟩ := u6q ns hx
  · exact hw
  · obtain ⟨_, _, h2, h3, h4⟩ := fork_one hx hok
    have hi := (List.getElem?_eq_some_iff.1 hx).1
    omega
theorem with_fork {root : Int} {k k' : Dig} {v v' : List UInt8} {ns : List Node} {i d f l r : Nat} {L R t' : T} (hx : ns[i]? = some ⟨false, k', v', l, r⟩) (hok : okN ns) (hL : Rep ns l L) (hR : Rep ns r R) (hd : d < 256) (hl : ns.length + f + 1 ≤ 1000000000) (ht : t'.non = true)
    (sp : YUq G root k v ns (if bitN k d = 0 then l else r) (d + 1) (Gr ns f t')) : YUq G root k v ns (i + 1) d (Gr ns (f + 1) (if bitN k d = 0 then .fork t' R else .fork L t')) := by
  intro R'
  have hi := (List.getElem?_eq_some_iff.1 hx).1
  have b1 := qDq k d
  have hc : bitN k d = 0 ∨ bitN k d = 1 := by omega
  have hw := fork_all hx hok
  rcases hc with hc | hc
  · skip
    rw [if_pos hc] at sp
    refine yrq (fn := Try.f55) rfl rfl rfl (Nat.le_of_ble_eq_true rfl) (fun k0 => ?_)
    refine zcq (zbq (zeq rfl rfl (zaq rfl rfl (zdq ?_))))
    refine zfq (zcq (zcq (zbq (zaq rfl rfl (zCq rfl rfl ?_)))))
    refine zdq ?_
    refine zfq ?_
    refine zEq rfl (fun h1 => ?_) (fun h1 => ?_)
    · exfalso; omega
    · refine ziq (zfq (zcq (zbq (zaq rfl rfl (zaq rfl rfl (zaq rfl rfl (zaq rfl rfl (zeq rfl rfl (zaq rfl rfl (zyq (i) rfl rfl (by first | rfl | omega) ⟨by omega, by omega⟩ ?_))))))))))
      refine zaq rfl (yiq (i := i) rfl rfl rfl rfl rfl rfl rfl hi) (zeq rfl (yYq rfl rfl rfl hw) (zeq rfl rfl (zeq rfl rfl (zdq ?_))))
      refine zfq (zcq (zcq (zbq (zaq rfl rfl (zeq rfl rfl ?_)))))
      refine k6q (fun h2 => ?_) (fun h2 => ?_)
      · exfalso; cases h2
      · refine zaq rfl rfl (zgq rfl (zgq rfl (zgq rfl (zgq rfl (zgq rfl (zaq rfl rfl (zdq ?_)))))))
        refine zfq (zAq rfl (ziq (zfq (zcq (zbq (zeq rfl rfl (zdq ?_)))))))
        refine zfq (zcq (zcq (zbq (zaq rfl rfl (zeq rfl rfl (zdq ?_))))))
        refine zfq (zAq rfl (zbq (zeq rfl rfl (ztq rfl rfl rfl rfl rfl rfl (juq _) ?_))))
        refine zeq rfl rfl (zdq ?_)
        refine zfq (zcq (zbq (zaq rfl rfl (zeq rfl rfl (zaq rfl rfl (ztq rfl rfl rfl rfl rfl rfl (yKq k d 0 hd hc) ?_))))))
        refine zaq rfl rfl (zdq ?_)
        refine zfq (zcq (zZq (zhq rfl rfl (zhq rfl rfl ?_))))
        first | refine zhq rfl (z7q rfl rfl rfl rfl rfl rfl rfl (by first | assumption | (simp; done))) ?_ | refine zhq rfl (yiq rfl rfl rfl rfl rfl rfl rfl (by omega)) ?_ | refine zhq rfl (z0q rfl rfl rfl rfl rfl rfl (by omega)) ?_ | refine zhq rfl rfl ?_
        refine zDq rfl rfl ?_
        refine zhq rfl rfl (jEq (d + 1) rfl rfl (by first | rfl | omega) ⟨by omega, by omega⟩ ?_)
        refine zDq rfl rfl ?_
        (refine yIq rfl (yyq 1 rfl rfl rfl rfl (by simp) (by omega) (by show 1 < 5; omega) rfl rfl sp ?_); rintro ns1 m ⟨⟨ms, rfl, hms⟩, hok1, hm⟩; refine ⟨by first | rfl | kernel_rfl, ?_⟩)
        refine zhq rfl rfl (z6q ?_)
        refine zfq (zcq (zbq (zaq rfl rfl (zaq rfl rfl ?_))))
        first | refine zaq rfl (z7q rfl rfl rfl rfl rfl rfl rfl (by first | assumption | (simp; done))) ?_ | refine zaq rfl (yiq rfl rfl rfl rfl rfl rfl rfl (by omega)) ?_ | refine zaq rfl (z0q rfl rfl rfl rfl rfl rfl (by omega)) ?_ | refine zaq rfl rfl ?_
        refine zeq rfl rfl (zdq ?_)
        refine zfq (zcq (zbq (zaq rfl rfl (zeq rfl rfl (ztq rfl rfl rfl rfl rfl rfl (qWq _ _) ?_)))))
        (refine zYq rfl (yyq 5 rfl rfl rfl rfl (by simp) (by omega) (by show 5 < 6; omega) rfl rfl (qvq _ root _ (by simp only [List.length_append]; omega)) ?_); rintro ns2 m2 ⟨rfl, rfl⟩)
        refine zaq rfl rfl (zdq ?_)
        refine zfq (zjq ?_)
        have hm0 : 0 < m := by have := hm.non; rw [ht] at this; simpa using this.symm
        exact jXq 8 6 (.inr rfl) (by omega) (by show 6 < 7; omega) rfl rfl rfl rfl (by rw [if_pos hc]; exact qBq hms hok1 hm (hR.app _) (by omega))
  · skip
    rw [if_neg (by omega)] at sp
    refine yrq (fn := Try.f55) rfl rfl rfl (Nat.le_of_ble_eq_true rfl) (fun k0 => ?_)
    refine zcq (zbq (zeq rfl rfl (zaq rfl rfl (zdq ?_))))
    refine zfq (zcq (zcq (zbq (zaq rfl rfl (zCq rfl rfl ?_)))))
    refine zdq ?_
    refine zfq ?_
    refine zEq rfl (fun h1 => ?_) (fun h1 => ?_)
    · exfalso; omega
    · refine ziq (zfq (zcq (zbq (zaq rfl rfl (zaq rfl rfl (zaq rfl rfl (zaq rfl rfl (zeq rfl rfl (zaq rfl rfl (zyq (i) rfl rfl (by first | rfl | omega) ⟨by omega, by omega⟩ ?_))))))))))
      refine zaq rfl (yiq (i := i) rfl rfl rfl rfl rfl rfl rfl hi) (zeq rfl (yYq rfl rfl rfl hw) (zeq rfl rfl (zeq rfl rfl (zdq ?_))))
      refine zfq (zcq (zcq (zbq (zaq rfl rfl (zeq rfl rfl ?_)))))
      refine k6q (fun h2 => ?_) (fun h2 => ?_)
      · exfalso; cases h2
      · refine zaq rfl rfl (zgq rfl (zgq rfl (zgq rfl (zgq rfl (zgq rfl (zaq rfl rfl (zdq ?_)))))))
        refine zfq (zAq rfl (ziq (zfq (zcq (zbq (zeq rfl rfl (zdq ?_)))))))
        refine zfq (zcq (zcq (zbq (zaq rfl rfl (zeq rfl rfl (zdq ?_))))))
        refine zfq (zAq rfl (zbq (zeq rfl rfl (ztq rfl rfl rfl rfl rfl rfl (juq _) ?_))))
        refine zeq rfl rfl (zdq ?_)
        refine zfq (zcq (zbq (zaq rfl rfl (zeq rfl rfl (zaq rfl rfl (ztq rfl rfl rfl rfl rfl rfl (yKq k d 1 hd hc) ?_))))))
        refine zaq rfl rfl (zdq ?_)
        refine zfq (zcq (zZq (zhq rfl rfl (zhq rfl rfl ?_))))
        first | refine zhq rfl (z7q rfl rfl rfl rfl rfl rfl rfl (by first | assumption | (simp; done))) ?_ | refine zhq rfl (yiq rfl rfl rfl rfl rfl rfl rfl (by omega)) ?_ | refine zhq rfl (z0q rfl rfl rfl rfl rfl rfl (by omega)) ?_ | refine zhq rfl rfl ?_
        refine zDq rfl rfl ?_
        refine zhq rfl rfl (jEq (d + 1) rfl rfl (by first | rfl | omega) ⟨by omega, by omega⟩ ?_)
        refine zDq rfl rfl ?_
        (refine yIq rfl (yyq 1 rfl rfl rfl rfl (by simp) (by omega) (by show 1 < 5; omega) rfl rfl sp ?_); rintro ns1 m ⟨⟨ms, rfl, hms⟩, hok1, hm⟩; refine ⟨by first | rfl | kernel_rfl, ?_⟩)
        refine zhq rfl rfl (z6q ?_)
        refine zfq (zcq (zbq (zaq rfl rfl (zaq rfl rfl ?_))))
        first | refine zaq rfl (z7q rfl rfl rfl rfl rfl rfl rfl (by first | assumption | (simp; done))) ?_ | refine zaq rfl (yiq rfl rfl rfl rfl rfl rfl rfl (by omega)) ?_ | refine zaq rfl (z0q rfl rfl rfl rfl rfl rfl (by omega)) ?_ | refine zaq rfl rfl ?_
        refine zeq rfl rfl (zdq ?_)
        refine zfq (zcq (zbq (zaq rfl rfl (zeq rfl rfl (ztq rfl rfl rfl rfl rfl rfl (qWq _ _) ?_)))))
        (refine zYq rfl (yyq 5 rfl rfl rfl rfl (by simp) (by omega) (by show 5 < 6; omega) rfl rfl (qvq _ root _ (by simp only [List.length_append]; omega)) ?_); rintro ns2 m2 ⟨rfl, rfl⟩)
        refine zaq rfl rfl (zdq ?_)
        refine zfq (zjq ?_)
        have hm0 : 0 < m := by have := hm.non; rw [ht] at this; simpa using this.symm
        exact jXq 8 6 (.inr rfl) (by omega) (by show 6 < 7; omega) rfl rfl rfl rfl (by rw [if_neg (by omega)]; exact qBq hms hok1 (hL.app _) hm (by omega))
theorem with_s (root : Int) (k : Dig) (v : List UInt8) (hv : MayP [(k, v)]) : ∀ (f : Nat) (t : T) (ns : List Node) (n d : Nat) (b : Dig), Rep ns n t → okN ns → t.ok d b = true → d + f = 256 → Zr d b → d ≤ ydq k b → ns.length + f + 1 ≤ 1000000000 → YUq G root k v ns n d (Gr ns (f + 1) (T.put k v f t)) := by
  intro f
  induction f with
  | zero =>
    intro t ns n d b hr hok ht hf hz hk hl
    cases hr with
    | nil => exact with_nil hok hv (by omega) (by omega)
    | leaf hx =>
      rename_i n k' v' l r
      have h := of_decide_eq_true ht
      have : k' = k := veq fun j hj => by rw [(yBq (by omega)).1 h j (by omega), (yBq (by omega)).1 hk j (by omega)]
      subst this
      exact with_hit hx hok hv (by omega) (by omega)
    | fork hx _ _ hL hR =>
      obtain ⟨hd, _⟩ := ok_fork.1 ht
      omega
  | succ f ih =>
    intro t ns n d b hr hok ht hf hz hk hl
    have hd : d < 256 := by omega
    have ed : 255 - f = d := by omega
    cases hr with
    | nil => exact with_nil hok hv (by omega) (by omega)
    | leaf hx =>
      rename_i n k' v' l r
      have h := of_decide_eq_true ht
      by_cases e : k' = k
      · subst e
        simp only [T.put, if_true]
        exact with_hit hx hok hv (by omega) (by omega)
      · have b1 := qDq k' d
        have b2 := qDq k d
        have b3 := qDq b d
        have key : YUq G root k v ns (n + 1) d (Gr ns (f + 1 + 1) (if bitN k d = 0 then .fork (T.put k v f (if bitN k d = bitN k' d then .leaf k' v' else .nil)) (if bitN k d = bitN k' d then .nil else .leaf k' v') else .fork (if bitN k d = bitN k' d then .nil else .leaf k' v') (T.put k v f (if bitN k d = bitN k' d then .leaf k' v' else .nil)))) := by
          refine with_leaf hx e hd (by omega) (Yoq k v f _) ?_
          by_cases hb : bitN k d = 0
          · by_cases he : bitN k d = bitN k' d
            · rw [if_pos he, if_pos he]
              exact ih _ ns _ (d + 1) b (.leaf hx) hok (decide_eq_true (kaq hz hd h (by omega))) (by omega) (qYq hz) (kaq hz hd hk hb) (by omega)
            · rw [if_neg he, if_neg he]
              exact ih _ ns _ (d + 1) b .nil hok rfl (by omega) (qYq hz) (kaq hz hd hk hb) (by omega)
          · by_cases he : bitN k d = bitN k' d
            · rw [if_pos he, if_pos he]
              exact ih _ ns _ (d + 1) (qdq b d) (.leaf hx) hok (decide_eq_true (j9q hz hd h (by omega))) (by omega) (qXq hz hd) (j9q hz hd hk hb) (by omega)
            · rw [if_neg he, if_neg he]
              exact ih _ ns _ (d + 1) (qdq b d) .nil hok rfl (by omega) (qXq hz hd) (j9q hz hd hk hb) (by omega)
        have ep : T.put k v (f + 1) (.leaf k' v') = (if bitN k d = 0 then .fork (T.put k v f (if bitN k d = bitN k' d then .leaf k' v' else .nil)) (if bitN k d = bitN k' d then .nil else .leaf k' v') else .fork (if bitN k d = bitN k' d then .nil else .leaf k' v') (T.put k v f (if bitN k d = bitN k' d then .leaf k' v' else .nil))) := by
          simp only [T.put, ed, if_neg e, T.roads]
          have c1 : bitN k d = 0 ∨ bitN k d = 1 := by omega
          have c2 : bitN k' d = 0 ∨ bitN k' d = 1 := by omega
          rcases c1 with c1 | c1 <;> rcases c2 with c2 | c2 <;> simp [c1, c2]
        rw [ep]
        exact key
    | fork hx h1 h2 hL hR =>
      rename_i n l r k' v' tl tr
      obtain ⟨_, k1, k2, _⟩ := ok_fork.1 ht
      have key : YUq G root k v ns (n + 1) d (Gr ns (f + 1 + 1) (if bitN k d = 0 then .fork (T.put k v f (if bitN k d = 0 then tl else tr)) tr else .fork tl (T.put k v f (if bitN k d = 0 then tl else tr)))) := by
        refine with_fork hx hok hL hR hd (by omega) (Yoq k v f _) ?_
        by_cases hb : bitN k d = 0
        · rw [if_pos hb, if_pos hb]
          exact ih _ ns _ (d + 1) b hL hok k1 (by omega) (qYq hz) (kaq hz hd hk hb) (by omega)
        · rw [if_neg hb, if_neg hb]
          exact ih _ ns _ (d + 1) (qdq b d) hR hok k2 (by omega) (qXq hz hd) (j9q hz hd hk hb) (by omega)
      have ep : T.put k v (f + 1) (.fork tl tr) = (if bitN k d = 0 then .fork (T.put k v f (if bitN k d = 0 then tl else tr)) tr else .fork tl (T.put k v f (if bitN k d = 0 then tl else tr))) := by
        simp only [T.put, ed]
        by_cases hb : bitN k d = 0
        · simp only [if_pos hb]
        · simp only [if_neg hb]
      rw [ep]
      exact key
end Go.Proofs.Ytgeelfdgnehdnaa
namespace Go.Proofs.Ytgeelfdgnehdnaa
open Go.RowKit
set_option linter.unusedSimpArgs false
set_option linter.unusedVariables false
attribute [local irreducible] CoW OpW FlW Step Spec
variable {G : Nat → Option W}
noncomputable def MkO (root : Int) (ns : List Node) (S : Nat → Prop) (P : List Node → Nat → Prop) : W → HpW → Nat → Prop := fun w hp nw =>
  (∃ m, S m ∧ w = .int .i64 ((m : Nat) : Int) ∧ hp = [(0, 101, mkW 1 ns.length root), (1, 70, nsW ns)] ∧ nw = 2) ∨ Mk root P w hp nw
theorem step_mkO {o : Oper} {fr : FrW} {hp : HpW} {nw : Nat} {R : Res} {post : W → HpW → Nat → Res → Option EvW → Prop} {x : Operand} {xs : Array Operand} {ats : Array TypeId} {f : FuncId} {us : List W} {root : Int} {ns : List Node} {S : Nat → Prop} {P : List Node → Nat → Prop} (k : Nat)
    (ho : o.op = .call ⟨.value x, xs, ats⟩) (hx : evW cfg G fr x = some (.fn f [] [])) (he : cfg.ext f = none) (hxs : evLW cfg G fr xs.toList = some (.ptr 0 0 :: us)) (hpu : purL us = true) (hk : 0 < k) (hkn : k < nw)
    (h0 : hget hp 0 = some (101, mkW k ns.length root)) (h1 : hget hp k = some (70, nsW ns)) (sp : qFq cfg G f 2 (.ptr 0 0 :: us) [(0, 101, mkW 1 ns.length root), (1, 70, nsW ns)] (MkO root ns S P))
    (hsame : ∀ m, S m → post (.int .i64 ((m : Nat) : Int)) ((0, 101, mkW k ns.length root) :: (k, 70, nsW ns) :: delA [0, k] hp) nw R (some .dirty))
    (hpost : ∀ ns' m, P ns' m → post (.int .i64 ((m : Nat) : Int)) ((0, 101, mkW nw ns'.length root) :: (nw, 70, nsW ns') :: delA [0, k] hp) (nw + 1) R (some .dirty)) : Step cfg G o fr hp nw R post := by
  refine q7q (ext := [0, k]) (ws := .ptr 0 0 :: us) ho hx he hxs ?_ sp ?_ ?_ (by simp) (handed2 h0 (by rw [ysq (qTq _)]; exact h1) rfl (zwq (qTq _))) ?_ ?_
  · show .ptr 0 0 :: (us ++ []) = W.ptr 0 0 :: y5q (numC [0, k] nw) us
    rw [jvq hpu, List.append_nil]
  · simp; omega
  · intro b hb
    simp only [List.mem_cons, List.not_mem_nil, or_false] at hb
    omega
  · have h := zwq (m := 2) (w := .tup us) hpu
    have h : refL 2 us = true := h
    show (refB 2 (.ptr 0 0) && refL 2 us) = true
    rw [h]; rfl
  · rintro w hp1 nw1 (⟨m, h, rfl, rfl, rfl⟩ | ⟨ns', m, h, rfl, rfl, rfl⟩)
    · have e : renH (numC [0, k] nw) [(0, 101, mkW 1 ns.length root), (1, 70, nsW ns)] = [(0, 101, mkW k ns.length root), (k, 70, nsW ns)] := by
        simp only [renH, ysq (qTq _)]; rfl
      have h := hsame m h
      rw [show ([0, k] : List Nat).length = 2 from rfl, e]
      exact h
    · have e : renH (numC [0, k] nw) [(0, 101, mkW 2 ns'.length root), (2, 70, nsW ns')] = [(0, 101, mkW nw ns'.length root), (nw, 70, nsW ns')] := by
        simp only [renH, ysq (qTq _)]; rfl
      have h := hpost ns' m h
      rw [show ([0, k] : List Nat).length = 2 from rfl, e]
      exact h
theorem jgq {k0 : Nat} {rs : List ResultVar} {x : Exit} {fr : FrW} {hp : HpW} {nw : Nat} {R : Res} {root : Int} {P : List Node → Nat → Prop} {ns0 : List Node} {S : Nat → Prop} {ns : List Node} {m : Nat} (s k : Nat) (hx : x = .normal ∨ x = .ret) (hk : 2 ≤ k) (hkn : k < nw) (hf : getW fr s = some (.int .i64 ((m : Nat) : Int)))
    (h0 : hget hp (tau1 2 k 0) = some (101, renW (tau1 2 k) (mkW 2 ns.length root))) (h1 : hget hp (tau1 2 k 2) = some (70, nsW ns)) (ho : outW cfg [(s, .int .i64 ((m : Nat) : Int))] [(0, 101, mkW 2 ns.length root), (2, 70, nsW ns)] rs = some (.int .i64 ((m : Nat) : Int))) (hP : P ns m) :
    QFin cfg G 2 k0 rs (fun w hp nw R' => R' = R ∧ MkO root ns0 S P w hp nw) x fr hp nw R :=
  fin hx (jnq (b := 2) (k := k) (fr2 := [(s, .int .i64 ((m : Nat) : Int))]) (hp2 := [(0, 101, mkW 2 ns.length root), (2, 70, nsW ns)]) (by omega) hk hkn ⟨⟨hf, rfl⟩, trivial⟩ ⟨⟨by omega, h0, rfl⟩, ⟨by omega, by rw [ysq (qTq _)]; exact h1, zwq (qTq _)⟩, trivial⟩ (by simp)) ho ⟨rfl, .inr ⟨ns, m, hP, rfl, rfl, rfl⟩⟩
theorem k1q {k0 : Nat} {rs : List ResultVar} {x : Exit} {fr : FrW} {hp : HpW} {nw : Nat} {R : Res} {root : Int} {P : List Node → Nat → Prop} {S : Nat → Prop} {ns : List Node} {m : Nat} (s : Nat) (hx : x = .normal ∨ x = .ret) (hkn : 2 ≤ nw) (hf : getW fr s = some (.int .i64 ((m : Nat) : Int)))
    (h0 : hget hp 0 = some (101, mkW 1 ns.length root)) (h1 : hget hp 1 = some (70, nsW ns)) (ho : outW cfg [(s, .int .i64 ((m : Nat) : Int))] [(0, 101, mkW 1 ns.length root), (1, 70, nsW ns)] rs = some (.int .i64 ((m : Nat) : Int))) (hP : S m) :
    QFin cfg G 2 k0 rs (fun w hp nw R' => R' = R ∧ MkO root ns S P w hp nw) x fr hp nw R :=
  fin hx (uwq (nw2 := 2) (fr2 := [(s, .int .i64 ((m : Nat) : Int))]) (hp2 := [(0, 101, mkW 1 ns.length root), (1, 70, nsW ns)]) (by omega) hkn ⟨hf, trivial⟩ rfl (fun b y hb => by
    match b, hb with
    | 0, hb => cases hb; exact ⟨by omega, h0, rfl⟩
    | 1, hb => cases hb; exact ⟨by omega, h1, zwq (qTq _)⟩
    | b + 2, hb => cases hb) (by simp)) ho ⟨rfl, .inl ⟨m, hP, rfl, rfl, rfl⟩⟩
theorem xUq (ns : List Node) {i : Nat} {x : Node} (h : ns[i]? = some x) : yDq 50 (nsW ns) (0 + i * 36 + 0) 1 false = some (.bool x.leaf) :=
  get_in (yLq nW h) (by omega) (by omega) (by simp) rfl
theorem Rep.zero {ns : List Node} {t : T} (h : Rep ns 0 t) : t = .nil := by cases h; rfl
theorem Rep.is_leaf {ns : List Node} {n : Nat} {t : T} {x : Node} (h : Rep ns (n + 1) t) (hx : ns[n]? = some x) : (x.leaf = true → ∃ k v, t = .leaf k v) ∧ (x.leaf = false → ∃ l r, t = .fork l r) := by
  cases h with
  | leaf h2 => rw [hx] at h2; cases h2; exact ⟨fun _ => ⟨_, _, rfl⟩, fun h => by cases h⟩
  | fork h2 => rw [hx] at h2; cases h2; exact ⟨fun h => (by cases h), fun _ => ⟨_, _, rfl⟩⟩
theorem u8q {ns : List Node} {l r : Nat} {L R : T} (hl : Rep ns l L) (hr : Rep ns r R) (h : l + r = 0) : Rep ns (l + r) (T.join L R) := by
  obtain rfl : l = 0 := by omega
  obtain rfl : r = 0 := by omega
  rw [hl.zero, hr.zero]; exact .nil
theorem xWq {ns : List Node} {l r : Nat} {L R : T} {x : Node} (hl : Rep ns l L) (hr : Rep ns r R) (h : l = 0 ∨ r = 0) (h0 : 0 < l + r) (hx : ns[l + r - 1]? = some x) (hf : x.leaf = true) : Rep ns (l + r) (T.join L R) := by
  rcases h with rfl | rfl
  · cases r with
    | zero => omega
    | succ r =>
      have e : 0 + (r + 1) - 1 = r := by omega
      rw [e] at hx
      obtain ⟨k, v, rfl⟩ := (hr.is_leaf hx).1 hf
      rw [hl.zero, Nat.zero_add]; exact hr
  · cases l with
    | zero => omega
    | succ l =>
      obtain ⟨k, v, rfl⟩ := (hl.is_leaf (x := x) (by simpa using hx)).1 hf
      rw [hr.zero, Nat.add_zero]; exact hl
theorem xXq {ns : List Node} {l r : Nat} {L R : T} {x : Node} (hl : Rep ns l L) (hr : Rep ns r R) (h : l = 0 ∨ r = 0) (h0 : 0 < l + r) (hx : ns[l + r - 1]? = some x) (hf : x.leaf = false) : T.join L R = .fork L R := by
  rcases h with rfl | rfl
  · cases r with
    | zero => omega
    | succ r =>
      have e : 0 + (r + 1) - 1 = r := by omega
      rw [e] at hx
      obtain ⟨k, v, rfl⟩ := (hr.is_leaf hx).2 hf
      rw [hl.zero]; rfl
  · cases l with
    | zero => omega
    | succ l =>
      obtain ⟨k, v, rfl⟩ := (hl.is_leaf (x := x) (by simpa using hx)).2 hf
      rw [hr.zero]; rfl
theorem u7q {ns : List Node} {l r : Nat} {L R : T} (hl : Rep ns l L) (hr : Rep ns r R) (h1 : 0 < l) (h2 : 0 < r) : T.join L R = .fork L R := by
  cases hl with
  | nil => omega
  | leaf => cases hr with
    | nil => omega
    | leaf => rfl
    | fork => rfl
  | fork => cases hr with
    | nil => omega
    | leaf => rfl
    | fork => rfl
abbrev WoutS (G : Nat → Option W) (root : Int) (k : Dig) (ns : List Node) (n d : Nat) (S : Nat → Prop) (P : List Node → Nat → Prop) : Prop := qFq cfg G 57 2 [.ptr 0 0, .int .i64 ((n : Nat) : Int), .int .i64 ((d : Nat) : Int), dW k] [(0, 101, mkW 1 ns.length root), (1, 70, nsW ns)] (MkO root ns S P)
theorem wout_leaf {root : Int} {k k' : Dig} {v' : List UInt8} {ns : List Node} {i d : Nat} {l r : Int} {P : List Node → Nat → Prop} (hx : ns[i]? = some ⟨true, k', v', l, r⟩) (hl : ns.length ≤ 1000000000) : WoutS G root k ns (i + 1) d (fun m => Rep ns m .nil) P := by
  intro R
  have hi := (List.getElem?_eq_some_iff.1 hx).1
  obtain ⟨w, hw, rfl | ⟨_, rfl⟩⟩ := u6q ns hx
  · refine yrq (fn := Try.f57) rfl rfl rfl (Nat.le_of_ble_eq_true rfl) (fun k0 => ?_)
    refine zcq (zbq (zeq rfl rfl (zaq rfl rfl (zdq ?_))))
    refine zfq (zcq (zbq (zaq rfl rfl (zaq rfl rfl (zaq rfl rfl (zaq rfl rfl (zeq rfl rfl (zaq rfl rfl (zyq (i) rfl rfl (by first | rfl | omega) ⟨by omega, by omega⟩ ?_)))))))))
    refine zaq rfl (yiq (i := i) rfl rfl rfl rfl rfl rfl rfl hi) (zeq rfl (yYq rfl rfl rfl hw) (zeq rfl rfl (zeq rfl rfl (zdq ?_))))
    refine zfq (zcq (zcq (zbq (zaq rfl rfl (zeq rfl rfl (zdq ?_))))))
    refine zfq (zMq rfl (zcq (zbq (zaq rfl rfl (zdq ?_)))))
    refine zfq (zjq ?_)
    refine zlq (by intro h; cases h) ?_
    exact k1q (m := 0) 8 (.inr rfl) (by show 2 ≤ 4; omega) rfl rfl rfl rfl .nil
  · refine yrq (fn := Try.f57) rfl rfl rfl (Nat.le_of_ble_eq_true rfl) (fun k0 => ?_)
    refine zcq (zbq (zeq rfl rfl (zaq rfl rfl (zdq ?_))))
    refine zfq (zcq (zbq (zaq rfl rfl (zaq rfl rfl (zaq rfl rfl (zaq rfl rfl (zeq rfl rfl (zaq rfl rfl (zyq (i) rfl rfl (by first | rfl | omega) ⟨by omega, by omega⟩ ?_)))))))))
    refine zaq rfl (yiq (i := i) rfl rfl rfl rfl rfl rfl rfl hi) (zeq rfl (yYq rfl rfl rfl hw) (zeq rfl rfl (zeq rfl rfl (zdq ?_))))
    refine zfq (zcq (zcq (zbq (zaq rfl rfl (zeq rfl rfl (zdq ?_))))))
    refine zfq (zMq rfl (zcq (zbq (zaq rfl rfl (zdq ?_)))))
    refine zfq (zjq ?_)
    refine zlq (by intro h; cases h) ?_
    exact k1q (m := 0) 8 (.inr rfl) (by show 2 ≤ 4; omega) rfl rfl rfl rfl .nil
theorem min_w (a b : Nat) : W.int .i64 (match ltI (b : Int) (a : Int) with | true => (b : Int) | false => (a : Int)) = W.int .i64 ((min a b : Nat) : Int) := by
  cases h : ltI (b : Int) (a : Int) with
  | true => have := ltI_iff.1 h; simp only; congr 1; omega
  | false => have : ¬ (b : Int) < a := fun q => by rw [ltI_iff.2 q] at h; cases h
             simp only; congr 1; omega
theorem u9q {ns : List Node} {l r f : Nat} {L R : T} (hok : okN ns) (hl : Rep ns l L) (hr : Rep ns r R) (h : 0 < l + r) : Gr ns (f + 1) (.fork L R) (ns ++ [forkN l r]) (ns.length + 1) := by
  have h1 := qBq (ms := []) (f := f) (Nat.zero_le _) (by rw [List.append_nil]; exact hok) (by rw [List.append_nil]; exact hl) (by rw [List.append_nil]; exact hr) h
  rwa [List.append_nil] at h1
theorem wout_fork {root : Int} {k k' : Dig} {v' : List UInt8} {ns : List Node} {i d f l r : Nat} {L R t' : T} (hx : ns[i]? = some ⟨false, k', v', l, r⟩) (hok : okN ns) (hL : Rep ns l L) (hR : Rep ns r R) (hd : d < 256) (hl : ns.length + f + 1 ≤ 1000000000)
    (sp : WoutS G root k ns (if bitN k d = 0 then l else r) (d + 1) (fun m => Rep ns m t') (Gr ns f t')) : WoutS G root k ns (i + 1) d (fun m => Rep ns m (if bitN k d = 0 then .join t' R else .join L t')) (Gr ns (f + 1) (if bitN k d = 0 then .join t' R else .join L t')) := by
  intro R'
  have hi := (List.getElem?_eq_some_iff.1 hx).1
  have b1 := qDq k d
  have hc : bitN k d = 0 ∨ bitN k d = 1 := by omega
  have hw := fork_all hx hok
  rcases hc with hc | hc
  · skip
    rw [if_pos hc] at sp
    refine yrq (fn := Try.f57) rfl rfl rfl (Nat.le_of_ble_eq_true rfl) (fun k0 => ?_)
    refine zcq (zbq (zeq rfl rfl (zaq rfl rfl (zdq ?_))))
    refine zfq (zcq (zbq (zaq rfl rfl (zaq rfl rfl (zaq rfl rfl (zaq rfl rfl (zeq rfl rfl (zaq rfl rfl (zyq (i) rfl rfl (by first | rfl | omega) ⟨by omega, by omega⟩ ?_)))))))))
    refine zaq rfl (yiq (i := i) rfl rfl rfl rfl rfl rfl rfl hi) (zeq rfl (yYq rfl rfl rfl hw) (zeq rfl rfl (zeq rfl rfl (zdq ?_))))
    refine zfq (zcq (zcq (zbq (zaq rfl rfl (zeq rfl rfl (zdq ?_))))))
    refine zfq (zAq rfl (ziq (zfq (zcq (zbq (zeq rfl rfl (ztq rfl rfl rfl rfl rfl rfl (juq _) ?_)))))))
    refine zeq rfl rfl (zeq rfl rfl (zdq ?_))
    refine zfq (zcq (zbq (zeq rfl rfl (zaq rfl rfl (ztq rfl rfl rfl rfl rfl rfl (yKq k d 0 hd hc) ?_)))))
    refine zaq rfl rfl (zdq ?_)
    refine zfq (zcq (zZq (zhq rfl rfl (zhq rfl rfl ?_))))
    first | refine zhq rfl (z7q rfl rfl rfl rfl rfl rfl rfl (by first | assumption | (simp; done))) ?_ | refine zhq rfl (yiq rfl rfl rfl rfl rfl rfl rfl (by omega)) ?_ | refine zhq rfl (z0q rfl rfl rfl rfl rfl rfl (by omega)) ?_ | refine zhq rfl rfl ?_
    refine zDq rfl rfl ?_
    refine zhq rfl rfl (jEq (d + 1) rfl rfl (by first | rfl | omega) ⟨by omega, by omega⟩ ?_)
    refine zDq rfl rfl ?_
    skip
    skip
    refine yIq rfl (step_mkO 1 rfl rfl rfl rfl (by simp) (by omega) (by show 1 < 5; omega) rfl rfl sp ?_ ?_)
    · rintro m hm
      refine ⟨by first | rfl | kernel_rfl, ?_⟩
      skip
      have la := (hm).le
      have lb := ((hR)).le
      have ll : ns.length ≤ 1000000000 := by first | omega | (simp only [List.length_append]; omega)
      refine zhq rfl rfl (z6q ?_)
      refine zfq (zcq (zbq (zaq rfl rfl (zaq rfl rfl ?_))))
      first | refine zaq rfl (z7q rfl rfl rfl rfl rfl rfl rfl (by first | assumption | (simp; done))) ?_ | refine zaq rfl (yiq rfl rfl rfl rfl rfl rfl rfl (by omega)) ?_ | refine zaq rfl (z0q rfl rfl rfl rfl rfl rfl (by omega)) ?_ | refine zaq rfl rfl ?_
      refine zeq rfl rfl (zdq ?_)
      refine zfq (zcq (zcq (zbq ?_)))
      first | refine zaq rfl (z7q rfl rfl rfl rfl rfl rfl rfl (by first | assumption | (simp; done))) ?_ | refine zaq rfl (yiq rfl rfl rfl rfl rfl rfl rfl (by omega)) ?_ | refine zaq rfl (z0q rfl rfl rfl rfl rfl rfl (by omega)) ?_ | refine zaq rfl rfl ?_
      refine zeq rfl rfl ?_
      first | refine zaq rfl (z7q rfl rfl rfl rfl rfl rfl rfl (by first | assumption | (simp; done))) ?_ | refine zaq rfl (yiq rfl rfl rfl rfl rfl rfl rfl (by omega)) ?_ | refine zaq rfl (z0q rfl rfl rfl rfl rfl rfl (by omega)) ?_ | refine zaq rfl rfl ?_
      refine zeq rfl rfl (zyq (m + r) rfl rfl (by first | rfl | omega) ⟨by omega, by omega⟩ ?_)
      refine zaq rfl rfl (zdq ?_)
      refine zfq (zcq (zbq ?_))
      first | refine zaq rfl (z7q rfl rfl rfl rfl rfl rfl rfl (by first | assumption | (simp; done))) ?_ | refine zaq rfl (yiq rfl rfl rfl rfl rfl rfl rfl (by omega)) ?_ | refine zaq rfl (z0q rfl rfl rfl rfl rfl rfl (by omega)) ?_ | refine zaq rfl rfl ?_
      refine zeq rfl rfl ?_
      first | refine zaq rfl (z7q rfl rfl rfl rfl rfl rfl rfl (by first | assumption | (simp; done))) ?_ | refine zaq rfl (yiq rfl rfl rfl rfl rfl rfl rfl (by omega)) ?_ | refine zaq rfl (z0q rfl rfl rfl rfl rfl rfl (by omega)) ?_ | refine zaq rfl rfl ?_
      refine zeq rfl rfl (zNq (w' := .int .i64 ((min m r : Nat) : Int)) rfl rfl (min_w _ _) ?_)
      refine y3q rfl rfl (fun h1 => ?_) (fun h1 => ?_)
      · have hz : m = 0 ∨ r = 0 := by omega
        refine zaq rfl rfl (zaq rfl rfl ?_)
        refine y3q rfl rfl (fun h2 => ?_) (fun h2 => ?_)
        · refine zaq rfl rfl (zgq rfl (zgq rfl (zgq rfl (zgq rfl (zgq rfl (zgq rfl (zgq rfl (zgq rfl (zgq rfl (zgq rfl (zaq rfl rfl (zaq rfl rfl (zdq ?_)))))))))))))
          refine zfq (zMq rfl (zcq (zbq (zaq rfl rfl (zaq rfl rfl (zdq ?_))))))
          refine zfq (zjq ?_)
          refine zlq (by intro h; cases h) ?_
          exact k1q (m := m + r) 8 (.inr rfl) (by show 2 ≤ 5; omega) rfl rfl rfl rfl (by rw [if_pos hc]; exact u8q hm (hR) (by omega))
        · obtain ⟨y, hy⟩ : ∃ y, ns[m + r - 1]? = some y := ⟨_, List.getElem?_eq_getElem (by omega)⟩
          refine zaq rfl rfl (zaq rfl rfl (zaq rfl rfl (zaq rfl rfl (zaq rfl rfl (zeq rfl rfl (zaq rfl rfl (zyq (m + r - 1) rfl rfl (by first | rfl | omega) ⟨by omega, by omega⟩ ?_)))))))
          refine zaq rfl (yiq (i := m + r - 1) rfl rfl rfl rfl rfl rfl rfl (by omega)) ?_
          refine zaq rfl rfl (zeq rfl (yYq rfl rfl rfl (xUq ns hy)) (zaq rfl rfl (zaq rfl rfl (zdq ?_))))
          refine zfq ?_
          refine zEq rfl (fun h3 => ?_) (fun h3 => ?_)
          · refine zcq (zbq (zaq rfl rfl (zaq rfl rfl (zdq ?_))))
            refine zfq (zjq ?_)
            refine zlq (by intro h; cases h) ?_
            exact k1q (m := m + r) 8 (.inr rfl) (by show 2 ≤ 5; omega) rfl rfl rfl rfl (by rw [if_pos hc]; exact xWq hm (hR) hz (by omega) hy h3)
          · refine ziq (zfq (zcq (zbq (zaq rfl rfl (zeq rfl rfl (ztq rfl rfl rfl rfl rfl rfl (qWq _ _) ?_))))))
            (refine zYq rfl (yyq 1 rfl rfl rfl rfl (by simp) (by omega) (by show 1 < 5; omega) rfl rfl (qvq _ root _ (by first | omega | (simp only [List.length_append]; omega))) ?_); rintro ns2 m2 ⟨rfl, rfl⟩)
            refine zaq rfl rfl (zdq ?_)
            refine zfq (zjq ?_)
            exact jgq 8 5 (.inr rfl) (by omega) (by show 5 < 6; omega) rfl rfl rfl rfl (by rw [if_pos hc, xXq hm (hR) hz (by omega) hy (by simpa using h3)]; exact u9q hok hm (hR) (by omega))
      · refine zaq rfl rfl (zgq rfl (zgq rfl (zgq rfl (zgq rfl (zgq rfl (zgq rfl (zgq rfl (zgq rfl (zgq rfl (zgq rfl (zgq rfl (zgq rfl (zgq rfl (zgq rfl (zaq rfl rfl (zdq ?_))))))))))))))))
        refine zfq (zAq rfl (ziq (zfq (zcq (zbq (zaq rfl rfl (zeq rfl rfl (ztq rfl rfl rfl rfl rfl rfl (qWq _ _) ?_))))))))
        (refine zYq rfl (yyq 1 rfl rfl rfl rfl (by simp) (by omega) (by show 1 < 5; omega) rfl rfl (qvq _ root _ (by first | omega | (simp only [List.length_append]; omega))) ?_); rintro ns2 m2 ⟨rfl, rfl⟩)
        refine zaq rfl rfl (zdq ?_)
        refine zfq (zjq ?_)
        exact jgq 8 5 (.inr rfl) (by omega) (by show 5 < 6; omega) rfl rfl rfl rfl (by rw [if_pos hc, u7q hm (hR) (by omega) (by omega)]; exact u9q hok hm (hR) (by omega))
    · rintro ns1 m ⟨⟨ms, rfl, hms⟩, hok1, hm⟩
      refine ⟨by first | rfl | kernel_rfl, ?_⟩
      skip
      have la := (hm).le
      have lb := ((hR.app ms)).le
      have ll : (ns ++ ms).length ≤ 1000000000 := by first | omega | (simp only [List.length_append]; omega)
      refine zhq rfl rfl (z6q ?_)
      refine zfq (zcq (zbq (zaq rfl rfl (zaq rfl rfl ?_))))
      first | refine zaq rfl (z7q rfl rfl rfl rfl rfl rfl rfl (by first | assumption | (simp; done))) ?_ | refine zaq rfl (yiq rfl rfl rfl rfl rfl rfl rfl (by omega)) ?_ | refine zaq rfl (z0q rfl rfl rfl rfl rfl rfl (by omega)) ?_ | refine zaq rfl rfl ?_
      refine zeq rfl rfl (zdq ?_)
      refine zfq (zcq (zcq (zbq ?_)))
      first | refine zaq rfl (z7q rfl rfl rfl rfl rfl rfl rfl (by first | assumption | (simp; done))) ?_ | refine zaq rfl (yiq rfl rfl rfl rfl rfl rfl rfl (by omega)) ?_ | refine zaq rfl (z0q rfl rfl rfl rfl rfl rfl (by omega)) ?_ | refine zaq rfl rfl ?_
      refine zeq rfl rfl ?_
      first | refine zaq rfl (z7q rfl rfl rfl rfl rfl rfl rfl (by first | assumption | (simp; done))) ?_ | refine zaq rfl (yiq rfl rfl rfl rfl rfl rfl rfl (by omega)) ?_ | refine zaq rfl (z0q rfl rfl rfl rfl rfl rfl (by omega)) ?_ | refine zaq rfl rfl ?_
      refine zeq rfl rfl (zyq (m + r) rfl rfl (by first | rfl | omega) ⟨by omega, by omega⟩ ?_)
      refine zaq rfl rfl (zdq ?_)
      refine zfq (zcq (zbq ?_))
      first | refine zaq rfl (z7q rfl rfl rfl rfl rfl rfl rfl (by first | assumption | (simp; done))) ?_ | refine zaq rfl (yiq rfl rfl rfl rfl rfl rfl rfl (by omega)) ?_ | refine zaq rfl (z0q rfl rfl rfl rfl rfl rfl (by omega)) ?_ | refine zaq rfl rfl ?_
      refine zeq rfl rfl ?_
      first | refine zaq rfl (z7q rfl rfl rfl rfl rfl rfl rfl (by first | assumption | (simp; done))) ?_ | refine zaq rfl (yiq rfl rfl rfl rfl rfl rfl rfl (by omega)) ?_ | refine zaq rfl (z0q rfl rfl rfl rfl rfl rfl (by omega)) ?_ | refine zaq rfl rfl ?_
      refine zeq rfl rfl (zNq (w' := .int .i64 ((min m r : Nat) : Int)) rfl rfl (min_w _ _) ?_)
      refine y3q rfl rfl (fun h1 => ?_) (fun h1 => ?_)
      · have hz : m = 0 ∨ r = 0 := by omega
        refine zaq rfl rfl (zaq rfl rfl ?_)
        refine y3q rfl rfl (fun h2 => ?_) (fun h2 => ?_)
        · refine zaq rfl rfl (zgq rfl (zgq rfl (zgq rfl (zgq rfl (zgq rfl (zgq rfl (zgq rfl (zgq rfl (zgq rfl (zgq rfl (zaq rfl rfl (zaq rfl rfl (zdq ?_)))))))))))))
          refine zfq (zMq rfl (zcq (zbq (zaq rfl rfl (zaq rfl rfl (zdq ?_))))))
          refine zfq (zjq ?_)
          refine zlq (by intro h; cases h) ?_
          exact jgq (m := m + r) 8 5 (.inr rfl) (by omega) (by show 5 < 6; omega) rfl rfl rfl rfl ⟨⟨ms, rfl, by omega⟩, hok1, by rw [if_pos hc]; exact u8q hm (hR.app ms) (by omega)⟩
        · obtain ⟨y, hy⟩ : ∃ y, (ns ++ ms)[m + r - 1]? = some y := ⟨_, List.getElem?_eq_getElem (by omega)⟩
          refine zaq rfl rfl (zaq rfl rfl (zaq rfl rfl (zaq rfl rfl (zaq rfl rfl (zeq rfl rfl (zaq rfl rfl (zyq (m + r - 1) rfl rfl (by first | rfl | omega) ⟨by omega, by omega⟩ ?_)))))))
          refine zaq rfl (yiq (i := m + r - 1) rfl rfl rfl rfl rfl rfl rfl (by omega)) ?_
          refine zaq rfl rfl (zeq rfl (yYq rfl rfl rfl (xUq (ns ++ ms) hy)) (zaq rfl rfl (zaq rfl rfl (zdq ?_))))
          refine zfq ?_
          refine zEq rfl (fun h3 => ?_) (fun h3 => ?_)
          · refine zcq (zbq (zaq rfl rfl (zaq rfl rfl (zdq ?_))))
            refine zfq (zjq ?_)
            refine zlq (by intro h; cases h) ?_
            exact jgq (m := m + r) 8 5 (.inr rfl) (by omega) (by show 5 < 6; omega) rfl rfl rfl rfl ⟨⟨ms, rfl, by omega⟩, hok1, by rw [if_pos hc]; exact xWq hm (hR.app ms) hz (by omega) hy h3⟩
          · refine ziq (zfq (zcq (zbq (zaq rfl rfl (zeq rfl rfl (ztq rfl rfl rfl rfl rfl rfl (qWq _ _) ?_))))))
            (refine zYq rfl (yyq 5 rfl rfl rfl rfl (by simp) (by omega) (by show 5 < 6; omega) rfl rfl (qvq _ root _ (by first | omega | (simp only [List.length_append]; omega))) ?_); rintro ns2 m2 ⟨rfl, rfl⟩)
            refine zaq rfl rfl (zdq ?_)
            refine zfq (zjq ?_)
            exact jgq 8 6 (.inr rfl) (by omega) (by show 6 < 7; omega) rfl rfl rfl rfl (by rw [if_pos hc, xXq hm (hR.app ms) hz (by omega) hy (by simpa using h3)]; exact qBq hms hok1 hm (hR.app ms) (by omega))
      · refine zaq rfl rfl (zgq rfl (zgq rfl (zgq rfl (zgq rfl (zgq rfl (zgq rfl (zgq rfl (zgq rfl (zgq rfl (zgq rfl (zgq rfl (zgq rfl (zgq rfl (zgq rfl (zaq rfl rfl (zdq ?_))))))))))))))))
        refine zfq (zAq rfl (ziq (zfq (zcq (zbq (zaq rfl rfl (zeq rfl rfl (ztq rfl rfl rfl rfl rfl rfl (qWq _ _) ?_))))))))
        (refine zYq rfl (yyq 5 rfl rfl rfl rfl (by simp) (by omega) (by show 5 < 6; omega) rfl rfl (qvq _ root _ (by first | omega | (simp only [List.length_append]; omega))) ?_); rintro ns2 m2 ⟨rfl, rfl⟩)
        refine zaq rfl rfl (zdq ?_)
        refine zfq (zjq ?_)
        exact jgq 8 6 (.inr rfl) (by omega) (by show 6 < 7; omega) rfl rfl rfl rfl (by rw [if_pos hc, u7q hm (hR.app ms) (by omega) (by omega)]; exact qBq hms hok1 hm (hR.app ms) (by omega))
  · skip
    rw [if_neg (by omega)] at sp
    refine yrq (fn := Try.f57) rfl rfl rfl (Nat.le_of_ble_eq_true rfl) (fun k0 => ?_)
    refine zcq (zbq (zeq rfl rfl (zaq rfl rfl (zdq ?_))))
    refine zfq (zcq (zbq (zaq rfl rfl (zaq rfl rfl (zaq rfl rfl (zaq rfl rfl (zeq rfl rfl (zaq rfl rfl (zyq (i) rfl rfl (by first | rfl | omega) ⟨by omega, by omega⟩ ?_)))))))))
    refine zaq rfl (yiq (i := i) rfl rfl rfl rfl rfl rfl rfl hi) (zeq rfl (yYq rfl rfl rfl hw) (zeq rfl rfl (zeq rfl rfl (zdq ?_))))
    refine zfq (zcq (zcq (zbq (zaq rfl rfl (zeq rfl rfl (zdq ?_))))))
    refine zfq (zAq rfl (ziq (zfq (zcq (zbq (zeq rfl rfl (ztq rfl rfl rfl rfl rfl rfl (juq _) ?_)))))))
    refine zeq rfl rfl (zeq rfl rfl (zdq ?_))
    refine zfq (zcq (zbq (zeq rfl rfl (zaq rfl rfl (ztq rfl rfl rfl rfl rfl rfl (yKq k d 1 hd hc) ?_)))))
    refine zaq rfl rfl (zdq ?_)
    refine zfq (zcq (zZq (zhq rfl rfl (zhq rfl rfl ?_))))
    first | refine zhq rfl (z7q rfl rfl rfl rfl rfl rfl rfl (by first | assumption | (simp; done))) ?_ | refine zhq rfl (yiq rfl rfl rfl rfl rfl rfl rfl (by omega)) ?_ | refine zhq rfl (z0q rfl rfl rfl rfl rfl rfl (by omega)) ?_ | refine zhq rfl rfl ?_
    refine zDq rfl rfl ?_
    refine zhq rfl rfl (jEq (d + 1) rfl rfl (by first | rfl | omega) ⟨by omega, by omega⟩ ?_)
    refine zDq rfl rfl ?_
    skip
    skip
    refine yIq rfl (step_mkO 1 rfl rfl rfl rfl (by simp) (by omega) (by show 1 < 5; omega) rfl rfl sp ?_ ?_)
    · rintro m hm
      refine ⟨by first | rfl | kernel_rfl, ?_⟩
      skip
      have la := ((hL)).le
      have lb := (hm).le
      have ll : ns.length ≤ 1000000000 := by first | omega | (simp only [List.length_append]; omega)
      refine zhq rfl rfl (z6q ?_)
      refine zfq (zcq (zbq (zaq rfl rfl (zaq rfl rfl ?_))))
      first | refine zaq rfl (z7q rfl rfl rfl rfl rfl rfl rfl (by first | assumption | (simp; done))) ?_ | refine zaq rfl (yiq rfl rfl rfl rfl rfl rfl rfl (by omega)) ?_ | refine zaq rfl (z0q rfl rfl rfl rfl rfl rfl (by omega)) ?_ | refine zaq rfl rfl ?_
      refine zeq rfl rfl (zdq ?_)
      refine zfq (zcq (zcq (zbq ?_)))
      first | refine zaq rfl (z7q rfl rfl rfl rfl rfl rfl rfl (by first | assumption | (simp; done))) ?_ | refine zaq rfl (yiq rfl rfl rfl rfl rfl rfl rfl (by omega)) ?_ | refine zaq rfl (z0q rfl rfl rfl rfl rfl rfl (by omega)) ?_ | refine zaq rfl rfl ?_
      refine zeq rfl rfl ?_
      first | refine zaq rfl (z7q rfl rfl rfl rfl rfl rfl rfl (by first | assumption | (simp; done))) ?_ | refine zaq rfl (yiq rfl rfl rfl rfl rfl rfl rfl (by omega)) ?_ | refine zaq rfl (z0q rfl rfl rfl rfl rfl rfl (by omega)) ?_ | refine zaq rfl rfl ?_
      refine zeq rfl rfl (zyq (l + m) rfl rfl (by first | rfl | omega) ⟨by omega, by omega⟩ ?_)
      refine zaq rfl rfl (zdq ?_)
      refine zfq (zcq (zbq ?_))
      first | refine zaq rfl (z7q rfl rfl rfl rfl rfl rfl rfl (by first | assumption | (simp; done))) ?_ | refine zaq rfl (yiq rfl rfl rfl rfl rfl rfl rfl (by omega)) ?_ | refine zaq rfl (z0q rfl rfl rfl rfl rfl rfl (by omega)) ?_ | refine zaq rfl rfl ?_
      refine zeq rfl rfl ?_
      first | refine zaq rfl (z7q rfl rfl rfl rfl rfl rfl rfl (by first | assumption | (simp; done))) ?_ | refine zaq rfl (yiq rfl rfl rfl rfl rfl rfl rfl (by omega)) ?_ | refine zaq rfl (z0q rfl rfl rfl rfl rfl rfl (by omega)) ?_ | refine zaq rfl rfl ?_
      refine zeq rfl rfl (zNq (w' := .int .i64 ((min l m : Nat) : Int)) rfl rfl (min_w _ _) ?_)
      refine y3q rfl rfl (fun h1 => ?_) (fun h1 => ?_)
      · have hz : l = 0 ∨ m = 0 := by omega
        refine zaq rfl rfl (zaq rfl rfl ?_)
        refine y3q rfl rfl (fun h2 => ?_) (fun h2 => ?_)
        · refine zaq rfl rfl (zgq rfl (zgq rfl (zgq rfl (zgq rfl (zgq rfl (zgq rfl (zgq rfl (zgq rfl (zgq rfl (zgq rfl (zaq rfl rfl (zaq rfl rfl (zdq ?_)))))))))))))
          refine zfq (zMq rfl (zcq (zbq (zaq rfl rfl (zaq rfl rfl (zdq ?_))))))
          refine zfq (zjq ?_)
          refine zlq (by intro h; cases h) ?_
          exact k1q (m := l + m) 8 (.inr rfl) (by show 2 ≤ 5; omega) rfl rfl rfl rfl (by rw [if_neg (by omega)]; exact u8q (hL) hm (by omega))
        · obtain ⟨y, hy⟩ : ∃ y, ns[l + m - 1]? = some y := ⟨_, List.getElem?_eq_getElem (by omega)⟩
          refine zaq rfl rfl (zaq rfl rfl (zaq rfl rfl (zaq rfl rfl (zaq rfl rfl (zeq rfl rfl (zaq rfl rfl (zyq (l + m - 1) rfl rfl (by first | rfl | omega) ⟨by omega, by omega⟩ ?_)))))))
          refine zaq rfl (yiq (i := l + m - 1) rfl rfl rfl rfl rfl rfl rfl (by omega)) ?_
          refine zaq rfl rfl (zeq rfl (yYq rfl rfl rfl (xUq ns hy)) (zaq rfl rfl (zaq rfl rfl (zdq ?_))))
          refine zfq ?_
          refine zEq rfl (fun h3 => ?_) (fun h3 => ?_)
          · refine zcq (zbq (zaq rfl rfl (zaq rfl rfl (zdq ?_))))
            refine zfq (zjq ?_)
            refine zlq (by intro h; cases h) ?_
            exact k1q (m := l + m) 8 (.inr rfl) (by show 2 ≤ 5; omega) rfl rfl rfl rfl (by rw [if_neg (by omega)]; exact xWq (hL) hm hz (by omega) hy h3)
          · refine ziq (zfq (zcq (zbq (zaq rfl rfl (zeq rfl rfl (ztq rfl rfl rfl rfl rfl rfl (qWq _ _) ?_))))))
            (refine zYq rfl (yyq 1 rfl rfl rfl rfl (by simp) (by omega) (by show 1 < 5; omega) rfl rfl (qvq _ root _ (by first | omega | (simp only [List.length_append]; omega))) ?_); rintro ns2 m2 ⟨rfl, rfl⟩)
            refine zaq rfl rfl (zdq ?_)
            refine zfq (zjq ?_)
            exact jgq 8 5 (.inr rfl) (by omega) (by show 5 < 6; omega) rfl rfl rfl rfl (by rw [if_neg (by omega), xXq (hL) hm hz (by omega) hy (by simpa using h3)]; exact u9q hok (hL) hm (by omega))
      · refine zaq rfl rfl (zgq rfl (zgq rfl (zgq rfl (zgq rfl (zgq rfl (zgq rfl (zgq rfl (zgq rfl (zgq rfl (zgq rfl (zgq rfl (zgq rfl (zgq rfl (zgq rfl (zaq rfl rfl (zdq ?_))))))))))))))))
        refine zfq (zAq rfl (ziq (zfq (zcq (zbq (zaq rfl rfl (zeq rfl rfl (ztq rfl rfl rfl rfl rfl rfl (qWq _ _) ?_))))))))
        (refine zYq rfl (yyq 1 rfl rfl rfl rfl (by simp) (by omega) (by show 1 < 5; omega) rfl rfl (qvq _ root _ (by first | omega | (simp only [List.length_append]; omega))) ?_); rintro ns2 m2 ⟨rfl, rfl⟩)
        refine zaq rfl rfl (zdq ?_)
        refine zfq (zjq ?_)
        exact jgq 8 5 (.inr rfl) (by omega) (by show 5 < 6; omega) rfl rfl rfl rfl (by rw [if_neg (by omega), u7q (hL) hm (by omega) (by omega)]; exact u9q hok (hL) hm (by omega))
    · rintro ns1 m ⟨⟨ms, rfl, hms⟩, hok1, hm⟩
      refine ⟨by first | rfl | kernel_rfl, ?_⟩
      skip
      have la := ((hL.app ms)).le
      have lb := (hm).le
      have ll : (ns ++ ms).length ≤ 1000000000 := by first | omega | (simp only [List.length_append]; omega)
      refine zhq rfl rfl (z6q ?_)
      refine zfq (zcq (zbq (zaq rfl rfl (zaq rfl rfl ?_))))
      first | refine zaq rfl (z7q rfl rfl rfl rfl rfl rfl rfl (by first | assumption | (simp; done))) ?_ | refine zaq rfl (yiq rfl rfl rfl rfl rfl rfl rfl (by omega)) ?_ | refine zaq rfl (z0q rfl rfl rfl rfl rfl rfl (by omega)) ?_ | refine zaq rfl rfl ?_
      refine zeq rfl rfl (zdq ?_)
      refine zfq (zcq (zcq (zbq ?_)))
      first | refine zaq rfl (z7q rfl rfl rfl rfl rfl rfl rfl (by first | assumption | (simp; done))) ?_ | refine zaq rfl (yiq rfl rfl rfl rfl rfl rfl rfl (by omega)) ?_ | refine zaq rfl (z0q rfl rfl rfl rfl rfl rfl (by omega)) ?_ | refine zaq rfl rfl ?_
      refine zeq rfl rfl ?_
      first | refine zaq rfl (z7q rfl rfl rfl rfl rfl rfl rfl (by first | assumption | (simp; done))) ?_ | refine zaq rfl (yiq rfl rfl rfl rfl rfl rfl rfl (by omega)) ?_ | refine zaq rfl (z0q rfl rfl rfl rfl rfl rfl (by omega)) ?_ | refine zaq rfl rfl ?_
      refine zeq rfl rfl (zyq (l + m) rfl rfl (by first | rfl | omega) ⟨by omega, by omega⟩ ?_)
      refine zaq rfl rfl (zdq ?_)
      refine zfq (zcq (zbq ?_))
      first | refine zaq rfl (z7q rfl rfl rfl rfl rfl rfl rfl (by first | assumption | (simp; done))) ?_ | refine zaq rfl (yiq rfl rfl rfl rfl rfl rfl rfl (by omega)) ?_ | refine zaq rfl (z0q rfl rfl rfl rfl rfl rfl (by omega)) ?_ | refine zaq rfl rfl ?_
      refine zeq rfl rfl ?_
      first | refine zaq rfl (z7q rfl rfl rfl rfl rfl rfl rfl (by first | assumption | (simp; done))) ?_ | refine zaq rfl (yiq rfl rfl rfl rfl rfl rfl rfl (by omega)) ?_ | refine zaq rfl (z0q rfl rfl rfl rfl rfl rfl (by omega)) ?_ | refine zaq rfl rfl ?_
      refine zeq rfl rfl (zNq (w' := .int .i64 ((min l m : Nat) : Int)) rfl rfl (min_w _ _) ?_)
      refine y3q rfl rfl (fun h1 => ?_) (fun h1 => ?_)
      · have hz : l = 0 ∨ m = 0 := by omega
        refine zaq rfl rfl (zaq rfl rfl ?_)
        refine y3q rfl rfl (fun h2 => ?_) (fun h2 => ?_)
        · refine zaq rfl rfl (zgq rfl (zgq rfl (zgq rfl (zgq rfl (zgq rfl (zgq rfl (zgq rfl (zgq rfl (zgq rfl (zgq rfl (zaq rfl rfl (zaq rfl rfl (zdq ?_)))))))))))))
          refine zfq (zMq rfl (zcq (zbq (zaq rfl rfl (zaq rfl rfl (zdq ?_))))))
          refine zfq (zjq ?_)
          refine zlq (by intro h; cases h) ?_
          exact jgq (m := l + m) 8 5 (.inr rfl) (by omega) (by show 5 < 6; omega) rfl rfl rfl rfl ⟨⟨ms, rfl, by omega⟩, hok1, by rw [if_neg (by omega)]; exact u8q (hL.app ms) hm (by omega)⟩
        · obtain ⟨y, hy⟩ : ∃ y, (ns ++ ms)[l + m - 1]? = some y := ⟨_, List.getElem?_eq_getElem (by omega)⟩
          refine zaq rfl rfl (zaq rfl rfl (zaq rfl rfl (zaq rfl rfl (zaq rfl rfl (zeq rfl rfl (zaq rfl rfl (zyq (l + m - 1) rfl rfl (by first | rfl | omega) ⟨by omega, by omega⟩ ?_)))))))
          refine zaq rfl (yiq (i := l + m - 1) rfl rfl rfl rfl rfl rfl rfl (by omega)) ?_
          refine zaq rfl rfl (zeq rfl (yYq rfl rfl rfl (xUq (ns ++ ms) hy)) (zaq rfl rfl (zaq rfl rfl (zdq ?_))))
          refine zfq ?_
          refine zEq rfl (fun h3 => ?_) (fun h3 => ?_)
          · refine zcq (zbq (zaq rfl rfl (zaq rfl rfl (zdq ?_))))
            refine zfq (zjq ?_)
            refine zlq (by intro h; cases h) ?_
            exact jgq (m := l + m) 8 5 (.inr rfl) (by omega) (by show 5 < 6; omega) rfl rfl rfl rfl ⟨⟨ms, rfl, by omega⟩, hok1, by rw [if_neg (by omega)]; exact xWq (hL.app ms) hm hz (by omega) hy h3⟩
          · refine ziq (zfq (zcq (zbq (zaq rfl rfl (zeq rfl rfl (ztq rfl rfl rfl rfl rfl rfl (qWq _ _) ?_))))))
            (refine zYq rfl (yyq 5 rfl rfl rfl rfl (by simp) (by omega) (by show 5 < 6; omega) rfl rfl (qvq _ root _ (by first | omega | (simp only [List.length_append]; omega))) ?_); rintro ns2 m2 ⟨rfl, rfl⟩)
            refine zaq rfl rfl (zdq ?_)
            refine zfq (zjq ?_)
            exact jgq 8 6 (.inr rfl) (by omega) (by show 6 < 7; omega) rfl rfl rfl rfl (by rw [if_neg (by omega), xXq (hL.app ms) hm hz (by omega) hy (by simpa using h3)]; exact qBq hms hok1 (hL.app ms) hm (by omega))
      · refine zaq rfl rfl (zgq rfl (zgq rfl (zgq rfl (zgq rfl (zgq rfl (zgq rfl (zgq rfl (zgq rfl (zgq rfl (zgq rfl (zgq rfl (zgq rfl (zgq rfl (zgq rfl (zaq rfl rfl (zdq ?_))))))))))))))))
        refine zfq (zAq rfl (ziq (zfq (zcq (zbq (zaq rfl rfl (zeq rfl rfl (ztq rfl rfl rfl rfl rfl rfl (qWq _ _) ?_))))))))
        (refine zYq rfl (yyq 5 rfl rfl rfl rfl (by simp) (by omega) (by show 5 < 6; omega) rfl rfl (qvq _ root _ (by first | omega | (simp only [List.length_append]; omega))) ?_); rintro ns2 m2 ⟨rfl, rfl⟩)
        refine zaq rfl rfl (zdq ?_)
        refine zfq (zjq ?_)
        exact jgq 8 6 (.inr rfl) (by omega) (by show 6 < 7; omega) rfl rfl rfl rfl (by rw [if_neg (by omega), u7q (hL.app ms) hm (by omega) (by omega)]; exact qBq hms hok1 (hL.app ms) hm (by omega))
theorem find_fork {k : Dig} {d : Nat} {L R : T} : T.find k d (.fork L R) = (if bitN k d = 0 then L.find k (d + 1) else R.find k (d + 1)) := rfl
theorem wout_s (root : Int) (k : Dig) (ns : List Node) (hok : okN ns) : ∀ (t : T) (n d f : Nat) (b : Dig), Rep ns n t → t.ok d b = true → d + f = 256 → (t.find k d).isSome = true → ns.length + f + 1 ≤ 1000000000 → WoutS G root k ns n d (fun m => Rep ns m (T.drop k d t)) (Gr ns f (T.drop k d t)) := by
  intro t
  induction t with
  | nil => intro n d f b hr ht hf hs hl; cases hs
  | leaf k' v' =>
    intro n d f b hr ht hf hs hl
    cases hr with
    | leaf hx => exact wout_leaf hx (by omega)
  | fork tl tr ihL ihR =>
    intro n d f b hr ht hf hs hl
    obtain ⟨hd, k1, k2, _⟩ := ok_fork.1 ht
    cases hr with
    | fork hx h1 h2 hL hR =>
      rename_i n l r k' v'
      cases f with
      | zero => omega
      | succ f =>
        rw [find_fork] at hs
        have key : WoutS G root k ns (n + 1) d (fun m => Rep ns m (if bitN k d = 0 then .join (T.drop k (d + 1) (if bitN k d = 0 then tl else tr)) tr else .join tl (T.drop k (d + 1) (if bitN k d = 0 then tl else tr)))) (Gr ns (f + 1) (if bitN k d = 0 then .join (T.drop k (d + 1) (if bitN k d = 0 then tl else tr)) tr else .join tl (T.drop k (d + 1) (if bitN k d = 0 then tl else tr)))) := by
          refine wout_fork hx hok hL hR hd (by omega) ?_
          by_cases hb : bitN k d = 0
          · rw [if_pos hb] at hs ⊢
            rw [if_pos hb]
            exact ihL l (d + 1) f b hL k1 (by omega) hs (by omega)
          · rw [if_neg hb] at hs ⊢
            rw [if_neg hb]
            exact ihR r (d + 1) f (qdq b d) hR k2 (by omega) hs (by omega)
        have ep : T.drop k d (.fork tl tr) = (if bitN k d = 0 then .join (T.drop k (d + 1) (if bitN k d = 0 then tl else tr)) tr else .join tl (T.drop k (d + 1) (if bitN k d = 0 then tl else tr))) := by
          simp only [T.drop]
          by_cases hb : bitN k d = 0
          · simp only [if_pos hb]
          · simp only [if_neg hb]
        rw [ep]
        exact key
end Go.Proofs.Ytgeelfdgnehdnaa
namespace Go.Proofs.Ytgeelfdgnehdnaa
open Go.RowKit
set_option linter.unusedSimpArgs false
set_option linter.unusedVariables false
attribute [local irreducible] CoW OpW FlW Step Spec
variable {G : Nat → Option W}
theorem step_mkJ {o : Oper} {fr : FrW} {hp : HpW} {nw : Nat} {R : Res} {post : W → HpW → Nat → Res → Option EvW → Prop} {x : Operand} {xs : Array Operand} {ats : Array TypeId} {f : FuncId} {us : List W} {root : Int} {ns : List Node} {S : Nat → Prop} {P : List Node → Nat → Prop} (j k : Nat)
    (ho : o.op = .call ⟨.value x, xs, ats⟩) (hx : evW cfg G fr x = some (.fn f [] [])) (he : cfg.ext f = none) (hxs : evLW cfg G fr xs.toList = some (.ptr j 0 :: us)) (hpu : purL us = true) (hjk : j ≠ k) (hj : j < nw) (hkn : k < nw)
    (h0 : hget hp j = some (101, mkW k ns.length root)) (h1 : hget hp k = some (70, nsW ns)) (sp : qFq cfg G f 2 (.ptr 0 0 :: us) [(0, 101, mkW 1 ns.length root), (1, 70, nsW ns)] (MkO root ns S P))
    (hsame : ∀ m, S m → post (.int .i64 ((m : Nat) : Int)) ((j, 101, mkW k ns.length root) :: (k, 70, nsW ns) :: delA [j, k] hp) nw R (some .dirty))
    (hpost : ∀ ns' m, P ns' m → post (.int .i64 ((m : Nat) : Int)) ((j, 101, mkW nw ns'.length root) :: (nw, 70, nsW ns') :: delA [j, k] hp) (nw + 1) R (some .dirty)) : Step cfg G o fr hp nw R post := by
  refine q7q (ext := [j, k]) (ws := .ptr 0 0 :: us) ho hx he hxs ?_ sp ?_ ?_ (by simp) (handed2 h0 (by rw [ysq (qTq _)]; exact h1) rfl (zwq (qTq _))) ?_ ?_
  · show .ptr j 0 :: (us ++ []) = W.ptr j 0 :: y5q (numC [j, k] nw) us
    rw [jvq hpu, List.append_nil]
  · simp; omega
  · intro b hb
    simp only [List.mem_cons, List.not_mem_nil, or_false] at hb
    omega
  · have h := zwq (m := 2) (w := .tup us) hpu
    have h : refL 2 us = true := h
    show (refB 2 (.ptr 0 0) && refL 2 us) = true
    rw [h]; rfl
  · rintro w hp1 nw1 (⟨m, h, rfl, rfl, rfl⟩ | ⟨ns', m, h, rfl, rfl, rfl⟩)
    · have e : renH (numC [j, k] nw) [(0, 101, mkW 1 ns.length root), (1, 70, nsW ns)] = [(j, 101, mkW k ns.length root), (k, 70, nsW ns)] := by
        simp only [renH, ysq (qTq _)]; rfl
      have h := hsame m h
      rw [show ([j, k] : List Nat).length = 2 from rfl, e]
      exact h
    · have e : renH (numC [j, k] nw) [(0, 101, mkW 2 ns'.length root), (2, 70, nsW ns')] = [(j, 101, mkW nw ns'.length root), (nw, 70, nsW ns')] := by
        simp only [renH, ysq (qTq _)]; rfl
      have h := hpost ns' m h
      rw [show ([j, k] : List Nat).length = 2 from rfl, e]
      exact h
theorem mkO_of {f : FuncId} {ws : List W} {hp : HpW} {root : Int} {ns : List Node} {P : List Node → Nat → Prop} (h : qFq cfg G f 2 ws hp (Mk root P)) : qFq cfg G f 2 ws hp (MkO root ns (fun _ => False) P) := ZFq h fun _ _ _ h => .inr h
noncomputable def nilM (root : Int) : W := .agg 2 [.nils, .int .i64 root]
noncomputable def Mk0 (root : Int) (P : List Node → Nat → Prop) : W → HpW → Nat → Prop := fun w hp nw =>
  ∃ ns m, P ns m ∧ w = .int .i64 ((m : Nat) : Int) ∧ hp = [(0, 101, mkW 1 ns.length root), (1, 70, nsW ns)] ∧ nw = 2
theorem step_mk0 {o : Oper} {fr : FrW} {hp : HpW} {nw : Nat} {R : Res} {post : W → HpW → Nat → Res → Option EvW → Prop} {x : Operand} {xs : Array Operand} {ats : Array TypeId} {f : FuncId} {us : List W} {root : Int} {P : List Node → Nat → Prop} (j : Nat)
    (ho : o.op = .call ⟨.value x, xs, ats⟩) (hx : evW cfg G fr x = some (.fn f [] [])) (he : cfg.ext f = none) (hxs : evLW cfg G fr xs.toList = some (.ptr j 0 :: us)) (hpu : purL us = true) (hj : j < nw)
    (h0 : hget hp j = some (101, nilM root)) (sp : qFq cfg G f 1 (.ptr 0 0 :: us) [(0, 101, nilM root)] (Mk0 root P))
    (hpost : ∀ ns' m, P ns' m → post (.int .i64 ((m : Nat) : Int)) ((j, 101, mkW nw ns'.length root) :: (nw, 70, nsW ns') :: delA [j] hp) (nw + 1) R (some .dirty)) : Step cfg G o fr hp nw R post := by
  refine q7q (ext := [j]) (ws := .ptr 0 0 :: us) ho hx he hxs ?_ sp (by simp) ?_ (by simp) (handed1 h0 rfl) ?_ ?_
  · show .ptr j 0 :: (us ++ []) = W.ptr j 0 :: y5q (numC [j] nw) us
    rw [jvq hpu, List.append_nil]
  · intro b hb
    simp only [List.mem_cons, List.not_mem_nil, or_false] at hb
    omega
  · have h := zwq (m := 1) (w := .tup us) hpu
    have h : refL 1 us = true := h
    show (refB 1 (.ptr 0 0) && refL 1 us) = true
    rw [h]; rfl
  · rintro w hp1 nw1 ⟨ns', m, h, rfl, rfl, rfl⟩
    have e : renH (numC [j] nw) [(0, 101, mkW 1 ns'.length root), (1, 70, nsW ns')] = [(j, 101, mkW nw ns'.length root), (nw, 70, nsW ns')] := by
      simp only [renH, ysq (qTq _)]; rfl
    have h := hpost ns' m h
    rw [show ([j] : List Nat).length = 1 from rfl, e]
    exact h
theorem fin_mk0 {k0 : Nat} {rs : List ResultVar} {x : Exit} {fr : FrW} {hp : HpW} {nw : Nat} {R : Res} {root : Int} {P : List Node → Nat → Prop} {ns : List Node} {m : Nat} (s k : Nat) (hx : x = .normal ∨ x = .ret) (hk : 1 ≤ k) (hkn : k < nw) (hf : getW fr s = some (.int .i64 ((m : Nat) : Int)))
    (h0 : hget hp (tau1 1 k 0) = some (101, renW (tau1 1 k) (mkW 1 ns.length root))) (h1 : hget hp (tau1 1 k 1) = some (70, nsW ns)) (ho : outW cfg [(s, .int .i64 ((m : Nat) : Int))] [(0, 101, mkW 1 ns.length root), (1, 70, nsW ns)] rs = some (.int .i64 ((m : Nat) : Int))) (hP : P ns m) :
    QFin cfg G 1 k0 rs (fun w hp nw R' => R' = R ∧ Mk0 root P w hp nw) x fr hp nw R :=
  fin hx (jnq (b := 1) (k := k) (fr2 := [(s, .int .i64 ((m : Nat) : Int))]) (hp2 := [(0, 101, mkW 1 ns.length root), (1, 70, nsW ns)]) (by omega) hk hkn ⟨⟨hf, rfl⟩, trivial⟩ ⟨⟨by omega, h0, rfl⟩, ⟨by omega, by rw [ysq (qTq _)]; exact h1, zwq (qTq _)⟩, trivial⟩ (by simp)) ho ⟨rfl, ns, m, hP, rfl, rfl, rfl⟩
theorem node_0 (root : Int) (x : Node) : qFq cfg G 74 1 [.ptr 0 0, nW x] [(0, 101, nilM root)] (Mk0 root fun ns m => ns = [x] ∧ m = 1) := by
  intro R
  refine yrq (fn := Try.f74) rfl rfl rfl (Nat.le_of_ble_eq_true rfl) (fun k0 => ?_)
  refine zcq (zbq (zeq rfl rfl (zaq rfl rfl (zdq ?_))))
  refine zfq (zcq (zZq (zhq rfl rfl (zhq rfl rfl (zhq rfl rfl (zhq rfl rfl (zhq rfl rfl (zDq rfl rfl ?_))))))))
  refine zDq rfl rfl ?_
  refine zDq rfl rfl ?_
  refine jiq rfl (jBq rfl rfl (Zfq (news := [nW x]) (k := ti70) rfl rfl rfl rfl (jRq rfl rfl rfl rfl) (by simp) (by show 1 * ti70.bytes ≤ _; decide) (by show 1 ≤ _; decide))) (by first | rfl | kernel_rfl) ?_
  refine zhq rfl rfl (zhq rfl rfl (zhq rfl rfl (zDq rfl rfl ?_)))
  refine z6q ?_
  refine zfq (zcq (zbq (zaq rfl rfl (zaq rfl rfl (zaq rfl rfl (zaq rfl rfl (zeq rfl rfl ?_)))))))
  first | refine ZGq rfl rfl ?_ | refine zaq rfl rfl ?_
  refine zaq rfl rfl (zdq ?_)
  refine zfq (zjq ?_)
  exact fin_mk0 (ns := [x]) (m := 1) 4 3 (.inr rfl) (by omega) (by show 3 < 4; omega) rfl rfl rfl rfl ⟨rfl, rfl⟩
theorem with_0 {root : Int} {k : Dig} {v : List UInt8} {d : Int} : qFq cfg G 55 1 [.ptr 0 0, .int .i64 ((0 : Nat) : Int), .int .i64 d, nW ⟨true, k, v, 0, 0⟩] [(0, 101, nilM root)] (Mk0 root fun ns m => ns = [⟨true, k, v, 0, 0⟩] ∧ m = 1) := by
  intro R
  refine yrq (fn := Try.f55) rfl rfl rfl (Nat.le_of_ble_eq_true rfl) (fun k0 => ?_)
  refine zcq (zbq (zeq rfl rfl (zaq rfl rfl (zdq ?_))))
  refine zfq (zcq (zcq (zbq (zaq rfl rfl (zCq rfl rfl ?_)))))
  refine zdq ?_
  refine zfq ?_
  refine zEq rfl (fun h1 => ?_) (fun h1 => ?_)
  · refine zcq (zbq (zaq rfl rfl (zeq rfl rfl ?_)))
    (refine zYq rfl (step_mk0 0 rfl rfl rfl rfl (by simp) (by show 0 < 2; omega) rfl (node_0 root _) ?_); rintro ns1 m ⟨rfl, rfl⟩)
    refine zaq rfl rfl (zdq ?_)
    refine zfq (zjq ?_)
    refine zlq (by intro h; cases h) ?_
    exact fin_mk0 (ns := [⟨true, k, v, 0, 0⟩]) (m := 1) 8 2 (.inr rfl) (by omega) (by show 2 < 3; omega) rfl rfl rfl rfl ⟨rfl, rfl⟩
  · exfalso; omega
end Go.Proofs.Ytgeelfdgnehdnaa
namespace Go.Proofs.Ytgeelfdgnehdnaa
open Go.RowKit
set_option linter.unusedSimpArgs false
set_option linter.unusedVariables false
attribute [local irreducible] CoW OpW FlW Step Spec
variable {G : Nat → Option W}
def Ext (t t' : Tree) : Prop := ∃ ms, t'.nodes = t.nodes ++ ms ∧ ms.length ≤ 257
theorem Ext.refl (t : Tree) : Ext t t := ⟨[], by simp, by simp⟩
def PutA (t : Tree) (t0 : T) : W → Prop := fun w => ∃ t' n, IsT t' n t0 ∧ Ext t t' ∧ w = .tup [tW t', .int .i64 0]
theorem ufq {hp : HpW} {b : Nat} {ns : List Node} {root : Int} (h : hget hp b = some (70, nsW ns)) : View (blkA hp) (mkW b ns.length root) (tW ⟨ns, root⟩) :=
  .agg (.cons (.sl (c := nsW ns) (by unfold blkA; rw [h]) (qTq ns) (qbq (by decide) (List.length_map _).symm rfl) (by intro h; cases h)) (.cons (.pur rfl) .nil))
theorem ist_put {ns ns' : List Node} {n m : Nat} {t0 : T} {k : Dig} {v : List UInt8} (h : IsT ⟨ns, (n : Int)⟩ n t0) (hl : ns.length ≤ 261844) (hg : Gr ns 257 (t0.put k v 256) ns' m) : IsT ⟨ns', (m : Int)⟩ m (t0.put k v 256) := by
  obtain ⟨⟨ms, rfl, hms⟩, hok, hr⟩ := hg
  exact ⟨by simp only [List.length_append]; omega, hok, rfl, hr, (jDq k v 256 t0 (d := 0) (b := qSq) rfl j2q h.ok (Nat.zero_le _)).1⟩
theorem tput_s (t : Tree) (n : Nat) (t0 : T) (k : Dig) (v : List UInt8) (f : Bool) (h : IsT t n t0) (hv : MayP [(k, v)]) (hl : t.nodes.length ≤ 261844) : PE cfg G 29 [tW t, dW k, .fz (zBq v) 1 f] (PutA t (t0.put k v 256)) := by
  have hy := h.may
  have hr := h.root
  obtain ⟨ns, root⟩ := t
  simp only at hr hl
  subst hr
  have hvl : v.length ≤ 70368744177664 := by
    have h2 := (hv.2 0 (by simp) (k, v) rfl).1
    simp only [valB, Bool.and_eq_true, decide_eq_true_eq] at h2
    omega
  have e : (ns.map nW).length = ns.length := List.length_map _
  have hvals : ∀ x ∈ ns, x.val.length ≤ 70368744177664 := fun x hx => by
    obtain ⟨i, hi⟩ := List.getElem?_of_mem hx
    have h1 := h.okn i x hi
    obtain ⟨lf, k', v', l, r⟩ := x
    cases lf with
    | true => have := (vDq h.okn hi).2; simp only; omega
    | false => simp only [oneB, Bool.false_eq_true, if_false] at h1; simp only; rw [h1.2.2.2.1]; simp
  refine vzq (fn := Try.f29) rfl rfl rfl (Nat.le_of_ble_eq_true rfl) (fun R k0 => ?_)
  refine zcq (zbq (zeq rfl rfl (zeq rfl rfl (zeq rfl rfl (zaq rfl rfl (zdq ?_))))))
  refine zfq (zcq (zZq (zDq rfl rfl ?_)))
  refine zhq rfl rfl ?_
  refine qUq rfl rfl rfl rfl rfl rfl (v4q _ _ (by first | assumption | (simp; omega))) ?_
  refine zhq rfl rfl (zDq rfl rfl ?_)
  refine zDq rfl rfl ?_
  refine z6q ?_
  refine zfq (zcq (zmq (zcq (zbq (zeq rfl rfl ?_)))))
  first | refine ztq rfl rfl rfl rfl rfl rfl (y2q (w' := .int .i64 0) (qnq ⟨ns, (n : Int)⟩ (by show ns.length ≤ _; omega)) (by rw [if_pos hy])) ?_ | refine ztq rfl rfl rfl rfl rfl rfl (qnq _ (by omega)) ?_
  refine y3q rfl rfl (fun h1 => ?_) (fun h1 => ?_)
  · exfalso; exact h1 rfl
  · refine zaq rfl rfl (zeq rfl rfl ?_)
    first | refine ztq rfl rfl rfl rfl rfl rfl (y2q (w' := .bool true) (one_s ⟨true, k, v, 0, 0⟩ 0 (by omega)) (by rw [decide_eq_true (leaf_one hv 0)])) ?_ | refine ztq rfl rfl rfl rfl rfl rfl (one_s _ _ (by omega)) ?_
    refine zaq rfl rfl (zaq rfl rfl (zaq rfl rfl (zdq ?_)))
    refine zfq (zAq rfl (zcq (zbq (zaq rfl rfl (zeq rfl rfl (zNq (w' := .int .i64 (ns.length : Int)) rfl rfl (by rw [← e]; rfl) ?_))))))
    refine zCq rfl rfl ?_
    refine zaq rfl rfl (zdq ?_)
    refine zfq ?_
    refine zEq rfl (fun h2 => ?_) (fun h2 => ?_)
    · exfalso; omega
    · refine ziq (zrq (by intro i h; cases h) ?_)
      refine zfq (zcq (zbq (zeq rfl rfl ?_)))
      skip
      skip
      refine zYq rfl (u0q rfl rfl rfl rfl rfl (by simp [xlq]) (twin_s ns (n : Int) (by omega) hvals) ?_)
      rintro w hp1 nw1 (⟨hn, rfl, rfl, rfl⟩ | ⟨rfl, rfl, rfl⟩)
      · subst hn
        obtain rfl : n = 0 := by have := h.rep.le; simpa using this
        skip
        refine zaq rfl rfl (zeq rfl rfl (zaq rfl rfl (zdq ?_)))
        refine zfq (zcq (zZq (zhq rfl rfl (zhq rfl rfl (zhq rfl rfl (zhq rfl rfl (zhq rfl rfl (zhq rfl rfl (zDq rfl rfl ?_)))))))))
        refine zDq rfl rfl ?_
        (refine yIq rfl (step_mk0 6 rfl rfl rfl rfl (by simp [renW]) (by show 6 < 7; omega) rfl (with_0 (k := k) (v := v)) ?_); rintro ns1 m ⟨rfl, rfl⟩; refine ⟨by first | rfl | kernel_rfl, ?_⟩)
        refine zhq rfl rfl (zhq rfl rfl (zhq rfl rfl (zDq rfl rfl ?_)))
        refine z6q ?_
        refine zfq (zcq (zbq (zaq rfl rfl (zaq rfl rfl (zaq rfl rfl (zeq rfl rfl (zeq rfl rfl (zaq rfl rfl (zdq ?_)))))))))
        refine zfq (zjq ?_)
        obtain rfl := h.rep.zero
        refine xaq (w' := .tup [tW ⟨[⟨true, k, v, 0, 0⟩], ((1 : Nat) : Int)⟩, .int .i64 0]) (.inr rfl) rfl (.tup (.cons (ufq (b := 7) (ns := [⟨true, k, v, 0, 0⟩]) (root := ((1 : Nat) : Int)) rfl) (.cons (.pur rfl) .nil))) (by simp) ⟨_, 1, ?_, ⟨[⟨true, k, v, 0, 0⟩], rfl, by simp⟩, rfl⟩
        refine ist_put (n := 0) h (by simp) ?_
        rw [show T.put k v 256 .nil = .leaf k v from by simp [T.put]]
        exact YBq (ns := []) h.okn hv (by omega)
      · skip
        refine zaq rfl rfl (zeq rfl rfl (zaq rfl rfl (zdq ?_)))
        refine zfq (zcq (zZq (zhq rfl rfl (zhq rfl rfl (zhq rfl rfl (zhq rfl rfl (zhq rfl rfl (zhq rfl rfl (zDq rfl rfl ?_)))))))))
        refine zDq rfl rfl ?_
        (refine yIq rfl (step_mkJ 7 6 rfl rfl rfl rfl (by simp [renW]) (by omega) (by show 7 < 8; omega) (by show 6 < 8; omega) rfl (by show some (70, renW _ (nsW ns)) = _; rw [ysq (qTq ns)]) (mkO_of (with_s (n : Int) k v hv 256 t0 ns n 0 qSq h.rep h.okn h.ok rfl j2q (Nat.zero_le _) (by omega))) ?_ ?_); exact fun m hm => hm.elim; rintro ns1 m hg; refine ⟨by first | rfl | kernel_rfl, ?_⟩)
        refine zhq rfl rfl (zhq rfl rfl (zhq rfl rfl (zDq rfl rfl ?_)))
        refine z6q ?_
        refine zfq (zcq (zbq (zaq rfl rfl (zaq rfl rfl (zaq rfl rfl (zeq rfl rfl (zeq rfl rfl (zaq rfl rfl (zdq ?_)))))))))
        refine zfq (zjq ?_)
        exact xaq (w' := .tup [tW ⟨ns1, (m : Int)⟩, .int .i64 0]) (.inr rfl) rfl (.tup (.cons (ufq (b := 8) (ns := ns1) (root := (m : Int)) rfl) (.cons (.pur rfl) .nil))) (by simp) ⟨_, m, ist_put h hl hg, hg.1, rfl⟩
end Go.Proofs.Ytgeelfdgnehdnaa
namespace Go.Proofs.Ytgeelfdgnehdnaa
open Go.RowKit
set_option linter.unusedSimpArgs false
set_option linter.unusedVariables false
attribute [local irreducible] CoW OpW FlW Step Spec
variable {G : Nat → Option W}
theorem IsT.vals {ns : List Node} {n : Nat} {root : Int} {t0 : T} (h : IsT ⟨ns, root⟩ n t0) : ∀ x ∈ ns, x.val.length ≤ 70368744177664 := fun x hx => by
  obtain ⟨i, hi⟩ := List.getElem?_of_mem hx
  have h1 := h.okn i x hi
  obtain ⟨lf, k', v', l, r⟩ := x
  cases lf with
  | true => have := (vDq h.okn hi).2; simp only; omega
  | false => simp only [oneB, Bool.false_eq_true, if_false] at h1; simp only; rw [h1.2.2.2.1]; simp
theorem tdrop_s (t : Tree) (n : Nat) (t0 : T) (k : Dig) (h : IsT t n t0) (hs : (t0.find k 0).isSome = true) (hl : t.nodes.length ≤ 261844) : PE cfg G 31 [tW t, dW k] (PutA t (t0.drop k 0)) := by
  have hy := h.may
  have hr := h.root
  obtain ⟨ns, root⟩ := t
  simp only at hr hl
  subst hr
  have e : (ns.map nW).length = ns.length := List.length_map _
  have hvals := h.vals
  have hok := (x2q k t0 j2q h.ok hs).1
  obtain ⟨m, f1, f2, f3⟩ := fto_of (k := k) h.rep h.ok
  obtain ⟨v0, hv0⟩ := Option.isSome_iff_exists.1 hs
  obtain ⟨j, l0, r0, rfl, hx⟩ := f3 v0 hv0
  have hj := (List.getElem?_eq_some_iff.1 hx).1
  refine vzq (fn := Try.f31) rfl rfl rfl (Nat.le_of_ble_eq_true rfl) (fun R k0 => ?_)
  refine zcq (zbq (zeq rfl rfl (zeq rfl rfl (zeq rfl rfl (zaq rfl rfl (zdq ?_))))))
  refine zfq (zcq (zmq (zcq (zbq (zeq rfl rfl ?_)))))
  first | refine ztq rfl rfl rfl rfl rfl rfl (y2q (w' := .int .i64 0) (qnq ⟨ns, (n : Int)⟩ (by show ns.length ≤ _; omega)) (by rw [if_pos hy])) ?_ | refine ztq rfl rfl rfl rfl rfl rfl (qnq _ (by omega)) ?_
  refine zCq rfl rfl ?_
  refine zaq rfl rfl (zdq ?_)
  refine zfq (zAq rfl (zcq (zbq (zeq rfl rfl (zeq rfl rfl (ztq rfl rfl rfl rfl rfl rfl (tfind_s ⟨ns, (n : Int)⟩ k n _ rfl f1 (by show ns.length ≤ _; omega)) ?_))))))
  refine zCq rfl rfl ?_
  refine zaq rfl rfl (zdq ?_)
  refine zfq ?_
  refine zEq rfl (fun h1 => ?_) (fun h1 => ?_)
  · exfalso; omega
  · refine zcq (zbq (zaq rfl rfl (zeq rfl rfl (zNq (w' := .int .i64 (ns.length : Int)) rfl rfl (by rw [← e]; rfl) ?_))))
    refine zCq rfl rfl ?_
    refine zaq rfl rfl (zdq ?_)
    refine zfq ?_
    refine zEq rfl (fun h2 => ?_) (fun h2 => ?_)
    · exfalso; omega
    · refine ziq (zrq (by intro i h; cases h) ?_)
      refine zfq (zcq (zbq (zeq rfl rfl ?_)))
      skip
      refine zYq rfl (u0q rfl rfl rfl rfl rfl (by simp [xlq]) (twin_s ns (n : Int) (by omega) hvals) ?_)
      rintro w hp1 nw1 (⟨hn, rfl, rfl, rfl⟩ | ⟨rfl, rfl, rfl⟩)
      · exfalso
        subst hn
        simp at hj
      · skip
        refine zaq rfl rfl (zeq rfl rfl (zaq rfl rfl (zdq ?_)))
        refine zfq (zcq (zZq (zhq rfl rfl (zhq rfl rfl (zhq rfl rfl (zhq rfl rfl (zhq rfl rfl (zhq rfl rfl (zDq rfl rfl ?_)))))))))
        refine zDq rfl rfl ?_
        skip
        refine yIq rfl (step_mkJ 6 5 rfl rfl rfl rfl (by simp [renW]) (by omega) (by show 6 < 7; omega) (by show 5 < 7; omega) rfl (by show some (70, renW _ (nsW ns)) = _; rw [ysq (qTq ns)]) (wout_s (n : Int) k ns h.okn t0 n 0 256 qSq h.rep h.ok rfl hs (by omega)) ?_ ?_)
        · skip
          skip
          intro m hm
          refine ⟨by first | rfl | kernel_rfl, ?_⟩
          skip
          refine zhq rfl rfl (zhq rfl rfl (zhq rfl rfl (zDq rfl rfl ?_)))
          refine z6q ?_
          refine zfq (zcq (zbq (zaq rfl rfl (zaq rfl rfl (zaq rfl rfl (zeq rfl rfl (zeq rfl rfl (zaq rfl rfl (zdq ?_)))))))))
          refine zfq (zjq ?_)
          exact xaq (w' := .tup [tW ⟨ns, (m : Int)⟩, .int .i64 0]) (.inr rfl) rfl (.tup (.cons (ufq (b := 5) (ns := ns) (root := (m : Int)) rfl) (.cons (.pur rfl) .nil))) (by simp) ⟨⟨ns, (m : Int)⟩, m, ⟨h.len, h.okn, rfl, hm, hok⟩, ⟨[], by simp, by simp⟩, rfl⟩
        · rintro ns1 m ⟨⟨ms, rfl, hms⟩, hok1, hm⟩
          refine ⟨by first | rfl | kernel_rfl, ?_⟩
          skip
          refine zhq rfl rfl (zhq rfl rfl (zhq rfl rfl (zDq rfl rfl ?_)))
          refine z6q ?_
          refine zfq (zcq (zbq (zaq rfl rfl (zaq rfl rfl (zaq rfl rfl (zeq rfl rfl (zeq rfl rfl (zaq rfl rfl (zdq ?_)))))))))
          refine zfq (zjq ?_)
          exact xaq (w' := .tup [tW ⟨ns ++ ms, (m : Int)⟩, .int .i64 0]) (.inr rfl) rfl (.tup (.cons (ufq (b := 7) (ns := ns ++ ms) (root := (m : Int)) rfl) (.cons (.pur rfl) .nil))) (by simp) ⟨⟨ns ++ ms, (m : Int)⟩, m, ⟨by simp only [List.length_append]; omega, hok1, rfl, hm, hok⟩, ⟨ms, rfl, by omega⟩, rfl⟩
end Go.Proofs.Ytgeelfdgnehdnaa
namespace Go.Proofs.Ytgeelfdgnehdnaa
open Go.RowKit
set_option linter.unusedSimpArgs false
set_option linter.unusedVariables false
attribute [local irreducible] CoW OpW FlW Step Spec
variable {G : Nat → Option W}
noncomputable def setL (l : List Pr) (k : Dig) (a : Acct) : List Pr := if a = .zero then ycq l k else kAq l k (qwq a)
def SetA (t : Tree) (t0 : T) (k : Dig) (a : Acct) : W → Prop := fun w => ∃ t' n t1, IsA t' n t1 ∧ t1.all = setL t0.all k a ∧ Ext t t' ∧ w = .tup [tW t', .int .i64 0]
noncomputable def noT : W := .agg 2 [.nils, .int .i64 0]
theorem mayp_bytes (k : Dig) (a : Acct) : MayP [(k, qwq a)] := by
  refine ⟨by simp, fun i hi x hx => ?_⟩
  obtain rfl : i = 0 := by simpa using hi
  cases hx
  exact ⟨by simp [valB, qwq, beB], fun y h0 => by omega⟩
theorem aset_s (t : Tree) (n : Nat) (t0 : T) (k : Dig) (a : Acct) (h : IsA t n t0) (ha : a.ok) (hl : t.nodes.length ≤ 261844) : PE cfg G 9 [tW t, dW k, aW a] (SetA t t0 k a) := by
  have yes : MayA t := ⟨n, t0, h⟩
  by_cases hz : a = .zero
  · subst hz
    have hvals : ∀ x ∈ t.nodes, x.val.length ≤ 70368744177664 := IsT.vals (root := t.root) h.toIsT
    cases hf : t0.find k 0 with
    | none =>
      have hno : ycq t0.all k = t0.all := jjq (findL_none.1 (by rw [← kMq k j2q h.ok]; exact hf))
      have hall : t0.all = setL t0.all k .zero := by unfold setL; rw [if_pos rfl, hno]
      refine vzq (fn := Try.f9) rfl rfl rfl (Nat.le_of_ble_eq_true rfl) (fun R k0 => ?_)
      refine zcq (zbq (zeq rfl rfl (zeq rfl rfl (zeq rfl rfl (zeq rfl rfl (zaq rfl rfl (zdq ?_)))))))
      refine zfq (zcq (zcq (zbq (zeq rfl rfl (ztq rfl rfl rfl rfl rfl rfl (y2q (w' := .int .i64 0) (jHq t (by omega)) (by rw [if_pos yes])) ?_)))))
      refine zaq rfl rfl (zdq ?_)
      refine zfq (zcq (zbq (zaq rfl rfl (zCq rfl rfl ?_))))
      refine zdq ?_
      refine zfq (zAq rfl (ziq (zfq (zcq (zcq (zbq (zeq rfl rfl (zaq rfl rfl (zaq rfl (uBq rfl rfl rfl rfl (YIq .zero .zero)) (zdq ?_))))))))))
      refine zfq (zAq rfl (ziq (zfq (zcq (zcq (zbq (zeq rfl rfl (zeq rfl rfl (ztq rfl rfl rfl rfl rfl rfl (y2q (w' := .tup [.nils, .bool false]) (tget_s t n t0 k h.toIsT) (by rw [hf]; rfl)) ?_)))))))))
      refine zaq rfl rfl (zaq rfl rfl (zaq rfl rfl (zaq rfl rfl (zaq rfl rfl (zdq ?_)))))
      refine zfq (zcq (zbq (zaq rfl rfl (zaq rfl rfl (zdq ?_)))))
      refine zfq (zMq rfl (zcq (zbq (zeq rfl rfl ?_))))
      skip
      skip
      refine zYq rfl (u0q rfl rfl rfl rfl rfl (by simp [xlq]) (twin_s t.nodes t.root (by omega) hvals) ?_)
      rintro w hp1 nw1 (⟨hn, rfl, rfl, rfl⟩ | ⟨rfl, rfl, rfl⟩)
      · skip
        refine zeq rfl rfl (zaq rfl rfl (zdq ?_))
        refine zfq (zjq ?_)
        refine zlq (by intro h; cases h) ?_
        refine xaq (w' := .tup [tW t, .int .i64 0]) (.inr rfl) rfl (.tup (.cons (.agg (.cons ?_ (.cons (.pur rfl) .nil))) (.cons (.pur rfl) .nil))) (by simp) ⟨t, n, t0, h, hall, .refl t, rfl⟩
        rw [hn]
        exact .nilfz
      · skip
        refine zeq rfl rfl (zaq rfl rfl (zdq ?_))
        refine zfq (zjq ?_)
        refine zlq (by intro h; cases h) ?_
        exact xaq (w' := .tup [tW t, .int .i64 0]) (.inr rfl) rfl (.tup (.cons (ufq (b := 6) (ns := t.nodes) (root := t.root) (by show some (70, renW _ (nsW t.nodes)) = _; rw [ysq (qTq t.nodes)])) (.cons (.pur rfl) .nil))) (by simp) ⟨t, n, t0, h, hall, .refl t, rfl⟩
    | some v =>
      have hs : (t0.find k 0).isSome = true := by rw [hf]; rfl
      have hd := (x2q k t0 j2q h.ok hs).2
      refine vzq (fn := Try.f9) rfl rfl rfl (Nat.le_of_ble_eq_true rfl) (fun R k0 => ?_)
      refine zcq (zbq (zeq rfl rfl (zeq rfl rfl (zeq rfl rfl (zeq rfl rfl (zaq rfl rfl (zdq ?_)))))))
      refine zfq (zcq (zcq (zbq (zeq rfl rfl (ztq rfl rfl rfl rfl rfl rfl (y2q (w' := .int .i64 0) (jHq t (by omega)) (by rw [if_pos yes])) ?_)))))
      refine zaq rfl rfl (zdq ?_)
      refine zfq (zcq (zbq (zaq rfl rfl (zCq rfl rfl ?_))))
      refine zdq ?_
      refine zfq (zAq rfl (ziq (zfq (zcq (zcq (zbq (zeq rfl rfl (zaq rfl rfl (zaq rfl (uBq rfl rfl rfl rfl (YIq .zero .zero)) (zdq ?_))))))))))
      refine zfq (zAq rfl (ziq (zfq (zcq (zcq (zbq (zeq rfl rfl (zeq rfl rfl (ztq rfl rfl rfl rfl rfl rfl (y2q (w' := .tup [bW v, .bool true]) (tget_s t n t0 k h.toIsT) (by rw [hf]; rfl)) ?_)))))))))
      refine zaq rfl rfl (zaq rfl rfl (zaq rfl rfl (zaq rfl rfl (zaq rfl rfl (zdq ?_)))))
      refine zfq (zcq (zbq (zaq rfl rfl (zaq rfl rfl (zdq ?_)))))
      refine zfq (zAq rfl (ziq (zfq (zcq (zbq (zeq rfl rfl (zeq rfl rfl ?_)))))))
      (refine zYq rfl (Yfq rfl rfl rfl rfl rfl (tdrop_s t n t0 k h.toIsT hs hl) (by simp) ?_); rintro w hw ⟨t', n', ht', hx, rfl⟩)
      refine zaq rfl rfl (zaq rfl rfl (zeq rfl rfl (zaq rfl rfl (zdq ?_))))
      refine zfq (zjq ?_)
      exact xaq (w' := .tup [tW t', .int .i64 0]) (.inr rfl) rfl (.pur (by simp)) (by simp) ⟨t', n', _, ⟨ht', fun p hp => h.held p (by rw [hd] at hp; exact (mem_withoutL.1 hp).1)⟩, by rw [hd]; unfold setL; rw [if_pos rfl], hx, rfl⟩
  · have hp := (jDq k (qwq a) 256 t0 (d := 0) (b := qSq) rfl j2q h.ok (Nat.zero_le _)).2
    have e : eqW cfg 300 29 (aW a) (aW .zero) = some false := by rw [YIq, decide_eq_false hz]
    refine vzq (fn := Try.f9) rfl rfl rfl (Nat.le_of_ble_eq_true rfl) (fun R k0 => ?_)
    refine zcq (zbq (zeq rfl rfl (zeq rfl rfl (zeq rfl rfl (zeq rfl rfl (zaq rfl rfl (zdq ?_)))))))
    refine zfq (zcq (zcq (zbq (zeq rfl rfl (ztq rfl rfl rfl rfl rfl rfl (y2q (w' := .int .i64 0) (jHq t (by omega)) (by rw [if_pos yes])) ?_)))))
    refine zaq rfl rfl (zdq ?_)
    refine zfq (zcq (zbq (zaq rfl rfl (zCq rfl rfl ?_))))
    refine zdq ?_
    refine zfq (zAq rfl (ziq (zfq (zcq (zcq (zbq (zeq rfl rfl (zaq rfl rfl (zaq rfl (uBq rfl rfl rfl rfl e) (zdq ?_))))))))))
    refine zfq (zMq rfl (zcq (zZq (zDq rfl rfl ?_))))
    refine zDq rfl rfl ?_
    refine zDq rfl rfl ?_
    refine qUq rfl rfl rfl rfl rfl rfl (abytes_s a ha) ?_
    (refine yIq rfl (Yfq rfl rfl rfl rfl rfl (tput_s t n t0 k (qwq a) false h.toIsT (mayp_bytes k a) hl) (by simp) ?_); rintro w hw ⟨t', n', ht', hx, rfl⟩; refine ⟨by first | rfl | kernel_rfl, ?_⟩)
    refine zhq rfl rfl (zhq rfl rfl (zDq rfl rfl ?_))
    refine zhq rfl rfl (z6q ?_)
    refine zfq (zjq ?_)
    refine zlq (by intro h; cases h) ?_
    exact xaq (w' := .tup [tW t', .int .i64 0]) (.inr rfl) rfl (.pur (by simp)) (by simp) ⟨t', n', _, ⟨ht', fun p hq => by
      rw [hp] at hq
      rcases mem_withL.1 hq with rfl | ⟨q, _⟩
      · simp only; rw [read_bytes a ha hz]
      · exact h.held p q⟩, by rw [hp]; unfold setL; rw [if_neg hz], hx, rfl⟩
end Go.Proofs.Ytgeelfdgnehdnaa
namespace Go.Proofs.Ytgeelfdgnehdnaa
open Go.RowKit
set_option linter.unusedSimpArgs false
set_option linter.unusedVariables false
attribute [local irreducible] CoW OpW FlW Step Spec
variable {G : Nat → Option W}
theorem Zzq {o : Oper} {fr : FrW} {hp : HpW} {nw : Nat} {R : Res} {post : W → HpW → Nat → Res → Option EvW → Prop} {x : Operand} {xs : Array Operand} {ats : Array TypeId} {f : FuncId} {a b : Nat}
    (ho : o.op = .call ⟨.value x, xs, ats⟩) (hx : evW cfg G fr x = some (.fn f [] [])) (he : cfg.ext f = some add64V) (hxs : evLW cfg G fr xs.toList = some [.int .u64 ((a : Nat) : Int), .int .u64 ((b : Nat) : Int), .int .u64 ((0 : Nat) : Int)])
    (hpost : post (.tup [.int .u64 (((a + b) % 18446744073709551616 : Nat) : Int), .int .u64 (((a + b) / 18446744073709551616 : Nat) : Int)]) hp nw R (some .gen)) : Step cfg G o fr hp nw R post := by
  refine step_ext ho hx he hxs (fun Γ vs h => ?_) hpost
  simp only [List.nil_append, List.append_nil, RVL_cons, RV_int] at h
  obtain ⟨v1, vs1, rfl, rfl, v2, vs2, rfl, rfl, v3, vs3, rfl, rfl, h⟩ := h
  obtain rfl : vs3 = [] := by simpa [RVL] using h
  refine ⟨.tup [.int .u64 (.ofNat ((a + b + 0) % 18446744073709551616)), .int .u64 (.ofNat ((a + b + 0) / 18446744073709551616))], rfl, ?_⟩
  rw [RV_tup]
  refine ⟨_, rfl, ?_⟩
  simp only [RVL_cons, RV_int]
  exact ⟨_, _, rfl, rfl, _, _, rfl, rfl, rfl⟩
end Go.Proofs.Ytgeelfdgnehdnaa
namespace Go.Proofs.Ytgeelfdgnehdnaa
open Go.RowKit
set_option linter.unusedSimpArgs false
set_option linter.unusedVariables false
attribute [local irreducible] CoW OpW FlW Step Spec
variable {G : Nat → Option W}
def Z7q (t : Tree) (m : Nat) : Prop := m < t.nodes.length ∨ ∃ i x, i ≤ m ∧ t.nodes[i]? = some x ∧ 100 < x.val.length
noncomputable instance (t : Tree) (m : Nat) : Decidable (Z7q t m) := Classical.propDecidable _
theorem great_s (t : Tree) (m : Nat) (hb : t.nodes.length ≤ 4611686018427387903) (hm : m ≤ 4611686018427387903) : PS cfg G 8 [tW t, .int .i64 (m : Int)] (.bool (decide (Z7q t m))) := by
  have e : (t.nodes.map nW).length = t.nodes.length := List.length_map _
  refine ynq (fn := Try.f8) rfl rfl rfl (Nat.le_of_ble_eq_true rfl) (fun R k0 => ?_)
  refine zcq (zbq (zeq rfl rfl (zaq rfl rfl (zdq ?_))))
  refine zfq (zcq (zcq (zbq (zaq rfl rfl (zdq ?_)))))
  refine zfq (zmq ?_)
  refine ySq (α := Nat) (fun i => i ≤ t.nodes.length ∧ ∀ j x, j < i → t.nodes[j]? = some x → x.val.length ≤ 100) (fun i => [(5, .int .i64 (i : Int))]) [(1, _), (2, _), (4, _)] (fun i => t.nodes.length - i) (0) ⟨rfl, rfl, rfl, trivial⟩ (⟨Nat.zero_le _, fun j x h => by omega⟩) ⟨rfl, trivial⟩ (fun i hI => ?_)
  obtain ⟨hI, hJ⟩ := hI
  refine zcq (zcq (zbq (zaq rfl rfl (zaq rfl rfl (zeq rfl rfl (zNq (w' := .int .i64 (t.nodes.length : Int)) rfl rfl (by rw [← e]; rfl) ?_))))))
  refine y3q rfl rfl (fun h1 => ?_) (fun h1 => ?_)
  · have hi : i < t.nodes.length := by omega
    obtain ⟨x, hx⟩ : ∃ x, t.nodes[i]? = some x := ⟨_, List.getElem?_eq_getElem hi⟩
    have ex := yoq x.val
    refine zaq rfl rfl (zaq rfl rfl (zaq rfl rfl (zCq rfl rfl ?_)))
    refine zaq rfl rfl (zdq ?_)
    refine zfq ?_
    refine zEq rfl (fun h2 => ?_) (fun h2 => ?_)
    · refine ziq (zfq (zcq (zmq (zcq (zbq (zaq rfl rfl (zeq rfl rfl (zaq rfl rfl (zaq rfl (z7q (i := i) rfl rfl rfl rfl rfl rfl rfl (yLq nW hx)) (zaq rfl rfl (zeq rfl rfl (zNq (w' := .int .i64 (x.val.length : Int)) rfl rfl (by rw [← ex]; rfl) ?_))))))))))))
      refine zCq rfl rfl ?_
      refine zdq ?_
      refine zfq ?_
      refine zEq rfl (fun h3 => ?_) (fun h3 => ?_)
      · refine zcq (zbq (zaq rfl rfl (zdq ?_)))
        refine zfq (zjq ?_)
        refine zrq (by intro i h; cases h) ?_
        refine zlq (by intro h; cases h) ?_
        refine yhq (by intro h; cases h) ?_
        refine zrq (by intro i h; cases h) ?_
        refine zlq (by intro h; cases h) ?_
        exact znq (.inr rfl) rfl (by rw [decide_eq_true (show Z7q t m from .inr ⟨i, x, by omega, hx, by omega⟩)])
      · refine ziq (zrq (by intro i h; cases h) ?_)
        refine zfq (zbq (zaq rfl rfl (zyq (i + 1) rfl rfl (by first | rfl | omega) ⟨by omega, by omega⟩ ?_)))
        refine zaq rfl rfl (zdq ?_)
        exact ykq (i + 1) (⟨hi, fun j y hj hy => by rcases Nat.lt_succ_iff_lt_or_eq.1 hj with q | rfl; exact hJ j y q hy; have := Option.some.inj (hx.symm.trans hy); subst this; omega⟩) (by omega) ⟨rfl, trivial⟩ ⟨rfl, rfl, rfl, trivial⟩ (by repeat (first | exact trivial | refine ⟨by first | rfl | exact zwq (by first | rfl | (simp; done)), ?_⟩)) (by omega) (by repeat (first | exact zOq | refine zRq (by omega) ?_ | refine zPq (by omega) ?_ | refine zQq (by omega) ?_)) rfl
    · refine ytq ?_
      refine zlq (by intro h; cases h) ?_
      refine yhq (by intro h; cases h) ?_
      refine qoq (zfq (zcq (zbq (zaq rfl rfl (zeq rfl rfl (zNq (w' := .int .i64 (t.nodes.length : Int)) rfl rfl (by rw [← e]; rfl) ?_))))))
      refine zaq rfl rfl (zCq rfl rfl ?_)
      refine zaq rfl rfl (zdq ?_)
      refine zfq (zjq ?_)
      exact znq (.inr rfl) rfl (by rw [decide_eq_true (show Z7q t m from .inl (by omega))]; congr 1; exact decide_eq_true (show (m : Int) < (t.nodes.length : Int) by omega))
  · refine zaq rfl rfl (zgq rfl (zgq rfl (zgq rfl (zaq rfl rfl (zdq ?_)))))
    refine zfq (zAq rfl (ytq ?_))
    refine zlq (by intro h; cases h) ?_
    refine yhq (by intro h; cases h) ?_
    refine qoq (zfq (zcq (zbq (zaq rfl rfl (zeq rfl rfl (zNq (w' := .int .i64 (t.nodes.length : Int)) rfl rfl (by rw [← e]; rfl) ?_))))))
    refine zaq rfl rfl (zCq rfl rfl ?_)
    refine zaq rfl rfl (zdq ?_)
    refine zfq (zjq ?_)
    refine znq (.inr rfl) rfl ?_
    congr 1
    refine decide_eq_decide.2 ⟨fun q => .inl (show m < t.nodes.length by have q : (m : Int) < (t.nodes.length : Int) := q; omega), ?_⟩
    rintro (q | ⟨j, x, _, hx, hq⟩)
    · show (m : Int) < (t.nodes.length : Int)
      omega
    · have := hJ j x (by have := (List.getElem?_eq_some_iff.1 hx).1; omega) hx
      omega
theorem cv_str {C : Cfg} {G : Nat → Option W} {fr : FrW} {hp : HpW} {nw : Nat} {s t e : TypeId} {x : Operand} {js jt : TyI} {l : List UInt8} {f : Bool} (hs : C.ty s = some js) (ht : C.ty t = some jt) (hx : evW C G fr x = some (.fz (zBq l) 1 f)) (hjs : js.d = .slice e) (hjt : jt.d = .str) (he : vXq C e = some (.int .u8)) : opHW C G fr hp nw (.convert s t x) = some (.str l, hp, nw, .gen) := by
  simp only [opHW, hConv, hs, ht, hx, hjs, hjt, he, bytesOf_W]
theorem same_s (a b : List UInt8) (f g : Bool) : PS cfg G 28 [.fz (zBq a) 1 f, .fz (zBq b) 1 g] (.bool (decide (a = b))) := by
  refine ynq (fn := Try.f28) rfl rfl rfl (Nat.le_of_ble_eq_true rfl) (fun R k0 => ?_)
  refine zcq (zbq (zaq rfl rfl (zdq ?_)))
  refine zfq (zcq (zbq (zaq rfl rfl (zeq rfl (cv_str rfl rfl rfl rfl rfl rfl) (zaq rfl rfl (zeq rfl (cv_str rfl rfl rfl rfl rfl rfl) (zNq (w' := .bool (decide (a = b))) rfl rfl (congrArg W.bool (jZq a b)) (zaq rfl rfl (zdq ?_)))))))))
  refine zfq (zjq ?_)
  exact znq (.inr rfl) rfl rfl
end Go.Proofs.Ytgeelfdgnehdnaa
namespace Go.Proofs.Ytgeelfdgnehdnaa
open Go.RowKit
set_option linter.unusedSimpArgs false
set_option linter.unusedVariables false
mutual
theorem vqq {τ : Nat → Nat} {b : Nat} (h : ∀ i, i < b → τ i = i) : ∀ {w : W}, refB b w = true → renW τ w = w
  | .ptr c o, hw => by simp only [renW]; rw [h c (of_decide_eq_true hw)]
  | .sl c _ _ _ _ _, hw => by simp only [renW]; rw [h c (of_decide_eq_true hw)]
  | .fz l _ _, hw => by simp only [renW]; rw [kcq h (l := l) hw]
  | .fel x, hw => by simp only [renW]; rw [vqq h (w := x) hw]
  | .fn _ a c, hw => by
    simp only [refB, Bool.and_eq_true] at hw
    simp only [renW]; rw [kcq h (l := a) hw.1, kcq h (l := c) hw.2]
  | .iface _ v, hw => by simp only [renW]; rw [vqq h (w := v) hw]
  | .agg _ l, hw => by simp only [renW]; rw [kcq h (l := l) hw]
  | .arr _ _ l, hw => by simp only [renW]; rw [kcq h (l := l) hw]
  | .tup l, hw => by simp only [renW]; rw [kcq h (l := l) hw]
  | .undef, _ => rfl
  | .bool _, _ => rfl
  | .int _ _, _ => rfl
  | .str _, _ => rfl
  | .nilp, _ => rfl
  | .nils, _ => rfl
  | .nilm, _ => rfl
  | .yield _, _ => rfl
  | .nilf, _ => rfl
  | .nili, _ => rfl
theorem kcq {τ : Nat → Nat} {b : Nat} (h : ∀ i, i < b → τ i = i) : ∀ {l : List W}, refL b l = true → y5q τ l = l
  | [], _ => rfl
  | w :: l, hw => by
    simp only [refL, Bool.and_eq_true] at hw
    simp only [y5q]; rw [vqq h (w := w) hw.1, kcq h (l := l) hw.2]
end
mutual
theorem keq {b c : Nat} (h : b ≤ c) : ∀ {w : W}, refB b w = true → refB c w = true
  | .ptr d o, hw => decide_eq_true (Nat.lt_of_lt_of_le (of_decide_eq_true hw) h)
  | .sl d _ _ _ _ _, hw => decide_eq_true (Nat.lt_of_lt_of_le (of_decide_eq_true hw) h)
  | .fz l _ _, hw => jwq h (l := l) hw
  | .fel x, hw => keq h (w := x) hw
  | .fn _ a d, hw => by
    simp only [refB, Bool.and_eq_true] at hw ⊢
    exact ⟨jwq h hw.1, jwq h hw.2⟩
  | .iface _ v, hw => keq h (w := v) hw
  | .agg _ l, hw => jwq h (l := l) hw
  | .arr _ _ l, hw => jwq h (l := l) hw
  | .tup l, hw => jwq h (l := l) hw
  | .undef, _ => rfl
  | .bool _, _ => rfl
  | .int _ _, _ => rfl
  | .str _, _ => rfl
  | .nilp, _ => rfl
  | .nils, _ => rfl
  | .nilm, _ => rfl
  | .yield _, _ => rfl
  | .nilf, _ => rfl
  | .nili, _ => rfl
theorem jwq {b c : Nat} (h : b ≤ c) : ∀ {l : List W}, refL b l = true → refL c l = true
  | [], _ => rfl
  | w :: l, hw => by
    simp only [refL, Bool.and_eq_true] at hw ⊢
    exact ⟨keq h hw.1, jwq h hw.2⟩
end
noncomputable def gW (b e : Nat) : List W → W
  | [] => .nils
  | x :: r => .sl b 0 0 (x :: r).length e none
noncomputable def gH (b : Nat) (ty : TypeId) (e : Nat) : List W → HpW
  | [] => []
  | x :: r => [(b, ty, .arr ((x :: r).length * e) e (x :: r))]
noncomputable def evG : List W → EvW
  | [] => .gen
  | _ :: _ => .dirty
theorem evs_G {ops : Array Oper} {i : Nat} {es : List (Nat × EvW)} {l : List W} (h1 : evsW ops i .gen es = true) (h2 : evsW ops i .dirty es = true) : evsW ops i (evG l) es = true := by cases l <;> assumption
theorem gW_some {b e : Nat} {l : List W} (h : l ≠ []) : gW b e l = .sl b 0 0 l.length e none := by cases l with
  | nil => exact absurd rfl h
  | cons x r => rfl
theorem gH_some {b e : Nat} {ty : TypeId} {l : List W} (h : l ≠ []) : gH b ty e l = [(b, ty, .arr (l.length * e) e l)] := by cases l with
  | nil => exact absurd rfl h
  | cons x r => rfl
section
variable {C : Cfg} {nw : Nat} {ts tx ty : TypeId} {j k : TyI} {x : W} {news l : List W} {b : Nat} {H0 : HpW}
theorem hdel_pre {b : Nat} {x : TypeId × W} : ∀ {P : HpW}, (∀ p ∈ P, p.1 ≠ b) → hdel (P ++ [(b, x)]) b = P
  | [], _ => by
    show (match Nat.beq b b with | true => [] | false => _) = []
    rw [Nat.beq_refl]
  | (c, y) :: P, h => by
    have hc := h (c, y) (List.mem_cons_self ..)
    have e : Nat.beq c b = false := by
      cases q : Nat.beq c b with
      | true => exact absurd (Nat.eq_of_beq_eq_true q) hc
      | false => rfl
    show (match Nat.beq c b with | true => P ++ [(b, x)] | false => (c, y) :: hdel (P ++ [(b, x)]) b) = _
    rw [e]
    exact congrArg _ (hdel_pre fun p hp => h p (List.mem_cons_of_mem _ hp))
theorem xYq {b : Nat} {x : TypeId × W} : ∀ {P : HpW}, (∀ p ∈ P, p.1 ≠ b) → hget (P ++ [(b, x)]) b = some x
  | [], _ => by rw [List.nil_append, zFq, if_pos rfl]
  | (c, y) :: P, h => by
    rw [List.cons_append, zFq, if_neg fun e => h (c, y) (List.mem_cons_self ..) e]
    exact xYq fun p hp => h p (List.mem_cons_of_mem _ hp)
theorem ZKq {c : Nat} {y : TypeId × W} {Q : HpW} : ∀ {P : HpW}, hget P c = some y → hget (P ++ Q) c = some y
  | [], h => by simp [hget] at h
  | (q, z) :: P, h => by
    rw [List.cons_append, zFq]
    rw [zFq] at h
    split at h
    · rename_i h5; rw [if_pos h5]; exact h
    · rename_i h5; rw [if_neg h5]; exact ZKq h
theorem Z2q (P : HpW) {e : Nat} {hp : HpW} (he : e = k.size) (hj : C.ty ts = some j) (hd : j.d = .slice ty) (hk : C.ty ty = some k) (hz : Nat.beq k.size 0 = false) (hs : srcW C hp tx k.size x = some news) (hn : news ≠ []) (h1 : (l.length + news.length) * k.bytes ≤ 140737488355328) (h2 : l.length + news.length ≤ 70368744177664)
    (hg : hp = P ++ gH b ty e l) (hP : ∀ p ∈ P, p.1 ≠ b) :
    appW C hp nw ts tx (gW b e l) x = some (.sl nw 0 0 (l ++ news).length e none, (nw, ty, .arr ((l ++ news).length * e) e (l ++ news)) :: P, nw + 1, evG l) := by
  subst he
  have hk0 : 0 < k.size := by
    rcases Nat.eq_zero_or_pos k.size with h0 | h0
    · rw [h0] at hz; cases hz
    · exact h0
  have hnl : 0 < news.length := by cases news with
    | nil => exact absurd rfl hn
    | cons _ _ => simp
  cases l with
  | nil =>
    simp only [List.length_nil, Nat.zero_add] at h1 h2
    rw [show gW b k.size [] = .nils from rfl, Zfq hj hd hk hz hs hn h1 h2, hg, show gH b ty k.size [] = [] from rfl, List.append_nil]
    rfl
  | cons y r =>
    have hget : hget hp b = some (ty, .arr ((y :: r).length * k.size) k.size (y :: r)) := by rw [hg]; exact xYq hP
    rw [show gW b k.size (y :: r) = .sl b 0 0 (y :: r).length k.size none from rfl, uWq hj hd hk hz hs hn h1 h2 hget (by
      show (y :: r).length * k.size < 0 + ((y :: r).length + news.length) * k.size
      rw [Nat.zero_add]
      exact Nat.mul_lt_mul_of_pos_right (by omega) hk0) (by rw [Nat.beq_refl]) (qbq hk0 rfl rfl)]
    rw [hg, show gH b ty k.size (y :: r) = [(b, ty, .arr ((y :: r).length * k.size) k.size (y :: r))] from rfl, hdel_pre hP, List.length_append]
    rfl
theorem app_gr0 {hp : HpW} {e : Nat} (he : e = k.size) (hj : C.ty ts = some j) (hd : j.d = .slice ty) (hk : C.ty ty = some k) (hz : Nat.beq k.size 0 = false) (hs : srcW C hp tx k.size x = some []) : appW C hp nw ts tx (gW b e l) x = some (gW b e l, hp, nw, .gen) := by
  subst he
  cases l with
  | nil => exact YRq hj hd hk hz hs
  | cons y r => exact YQq hj hd hk hz hs
end
theorem Zwq {b e : Nat} {ty : TypeId} {l : List W} {H0 : HpW} (he : 0 < e) (hl : purL l = true) (hP : ∀ p ∈ H0, p.1 ≠ b) : View (blkA (H0 ++ gH b ty e l)) (gW b e l) (.fz l e false) := by
  cases l with
  | nil => exact .nilfz
  | cons y r => exact .sl (c := .arr ((y :: r).length * e) e (y :: r)) (by
      unfold blkA
      rw [show H0 ++ gH b ty e (y :: r) = H0 ++ [(b, ty, .arr ((y :: r).length * e) e (y :: r))] from rfl, xYq hP]) hl (qbq he rfl rfl) (by intro h; cases h)
theorem view_sl {b e n : Nat} {ty : TypeId} {l : List W} {H0 : HpW} (he : 0 < e) (hn : n = l.length) (hl : purL l = true) : View (blkA ((b, ty, .arr (n * e) e l) :: H0)) (.sl b 0 0 n e none) (.fz l e false) := by
  subst hn
  exact .sl (c := .arr (l.length * e) e l) (by
      unfold blkA
      rw [zFq, if_pos rfl]) hl (qbq he rfl rfl) (by intro h; cases h)
section
variable {C : Cfg} {G : Nat → Option W} {m k0 : Nat} {rd : Bool} {fr fr2 : FrW} {hp hp' : HpW} {nw nw' : Nat} {R : Res} {Q : qxq} {c : Code}
theorem ent_up (hf : subF fr fr2) : Ent C G m k0 fr hp nw R fr2 hp (nw + 1) R := fun Γ X st hnw hmn s => by
  let Γ2 : Ctx := ⟨nw + 1, Γ.σ, Γ.D, Γ.h⟩
  have le : Γ.Le Γ2 := ⟨by rw [hnw]; exact Nat.le_succ _, fun _ _ => rfl, fun _ h => h, fun _ _ => rfl⟩
  refine ⟨Γ2, X, rfl, ⟨s.hh, fun t w hw => ?_, ⟨s.sat.wf, fun b ty w hb => ?_, s.sat.inj, s.sat.nd, s.sat.dX, s.sat.xlt, s.sat.dlt, s.sat.res, s.sat.gl⟩, s.ds, s.nd⟩, ⟨fun _ _ => rfl, fun h => Nat.le_trans h le.nw, Nat.le_refl _, fun _ _ _ _ => rfl, fun _ h => h, fun _ h => .inl h, fun b x _ h => ⟨x, h⟩, fun b x hb h => .inr ⟨b, x, hb, h, rfl⟩, fun _ h => .inl h, fun _ h _ _ => h⟩⟩
  · obtain ⟨v, g3, g4⟩ := s.fr _ _ (uZq hf t w hw)
    exact ⟨v, g3, g4.mono le⟩
  · obtain ⟨q1, q2, q3, v, q4, q5⟩ := s.sat.own _ _ _ hb
    exact ⟨Nat.lt_of_lt_of_le q1 le.nw, q2, q3, v, q4, q5.mono le⟩
theorem subR_low {k : Nat} : ∀ {l : FrW}, subF fr l → refF nw l → subR (tau1 nw k) (nw + 1) fr l
  | [], _, _ => trivial
  | (t, w) :: l, h, r => ⟨⟨by rw [vqq (fun i hi => jIq (by omega)) r.1]; exact h.1, keq (Nat.le_succ _) r.1⟩, subR_low h.2 r.2⟩
theorem subRH_low {k : Nat} : ∀ {l : HpW}, subH hp nw l → subRH (tau1 nw k) (nw + 1) hp l
  | [], _ => trivial
  | (b, x) :: l, h => ⟨⟨Nat.lt_succ_of_lt h.1.1, by rw [jIq (by have := h.1.1; omega), vqq (fun i hi => jIq (by omega)) h.1.2.2]; exact h.1.2.1, keq (Nat.le_succ _) h.1.2.2⟩, subRH_low h.2⟩
theorem Ydq : ∀ {l : HpW}, subH hp nw l → ∀ p ∈ l, p.1 < nw
  | [], _, p, h => by simp at h
  | (b, x) :: l, h, p, hp => by
    rcases List.mem_cons.1 hp with rfl | hp
    · exact h.1.1
    · exact Ydq h.2 p hp
theorem subH_mono : ∀ {l : HpW}, subH hp nw l → subH hp (nw + 1) l
  | [], _ => trivial
  | (b, x) :: l, h => ⟨⟨Nat.lt_succ_of_lt h.1.1, h.1.2.1, keq (Nat.le_succ _) h.1.2.2⟩, subH_mono h.2⟩
theorem subRH_app {τ : Nat → Nat} {n : Nat} {b : HpW} : ∀ {a : HpW}, subRH τ n hp a → subRH τ n hp b → subRH τ n hp (a ++ b)
  | [], _, h => h
  | _ :: _, h, h2 => ⟨h.1, subRH_app h.2 h2⟩
theorem subH_app {n : Nat} {b : HpW} : ∀ {a : HpW}, subH hp n a → subH hp n b → subH hp n (a ++ b)
  | [], _, h => h
  | _ :: _, h, h2 => ⟨h.1, subH_app h.2 h2⟩
theorem nodup_g {H0 : HpW} {b e : Nat} {ty : TypeId} {l2 : List W} (hh : ∀ p ∈ H0, p.1 < b) (nd : (H0.map (·.1)).Nodup) : ((H0 ++ gH b ty e l2).map (·.1)).Nodup := by
  cases l2 with
  | nil => rw [show gH b ty e [] = [] from rfl, List.append_nil]; exact nd
  | cons x r =>
    rw [show gH b ty e (x :: r) = [(b, ty, .arr ((x :: r).length * e) e (x :: r))] from rfl, List.map_append, List.nodup_append]
    refine ⟨nd, by simp, fun a ha c hc q => ?_⟩
    obtain ⟨p, h1, h2⟩ := List.mem_map.1 ha
    have := hh p h1
    simp only [List.map_cons, List.map_nil, List.mem_cons, List.not_mem_nil, or_false] at hc
    omega
theorem co_loopG {α : Type} (I : α → Prop) (s : Nat) (L : α → List W) (ty : TypeId) (e : Nat) (V : α → FrW) (kf : FrW) (H0 : HpW) (μ : α → Nat) (a0 : α) (hk : subF fr kf) (h0 : I a0) (hv : subF fr (V a0)) (hL : L a0 = []) (hs : getW fr s = some .nils) (hh : hp = H0)
    (step : ∀ a, I a → CoW C G m k0 rd c ((s, gW nw e (L a)) :: (V a ++ kf)) (H0 ++ gH nw ty e (L a)) (nw + 1) R (xdq C G m k0 I (fun a => (s, gW nw e (L a)) :: (V a ++ kf)) (fun a => H0 ++ gH nw ty e (L a)) (fun _ => nw + 1) (fun _ => R) μ (μ a) Q)) : CoW C G m k0 rd (.loop c) fr hp nw R Q := by
  subst hh
  refine YOq I (fun a => (s, gW nw e (L a)) :: (V a ++ kf)) (fun a => hp ++ gH nw ty e (L a)) (fun _ => nw + 1) (fun _ => R) μ a0 h0 ?_ step
  have := ent_up (C := C) (G := G) (m := m) (k0 := k0) (fr := fr) (fr2 := (s, gW nw e (L a0)) :: (V a0 ++ kf)) (hp := hp) (nw := nw) (R := R) ⟨by rw [hL]; exact hs, q4q hv hk⟩
  rw [hL] at this ⊢
  rw [show gH nw ty e [] = [] from rfl, List.append_nil]
  exact this
theorem jbq {b : Nat} {ty : TypeId} {e : Nat} {H0 : HpW} {l2 : List W} {n : Nat} (k s : Nat) (hm : m ≤ b) (hk : b ≤ k) (hk2 : k < nw) (hne : l2 ≠ []) (hs : getW fr s = some (.sl k 0 0 n e none)) (hn : n = l2.length) (hf : subF fr fr2) (hr : refF b fr2) (hg : hget hp k = some (ty, .arr (n * e) e l2)) (hp2 : purL l2 = true) (hh : subH hp b H0) (nd : (H0.map (·.1)).Nodup) :
    Ent C G m k0 fr hp nw R ((s, gW b e l2) :: fr2) (H0 ++ gH b ty e l2) (b + 1) R := by
  subst hn
  have hpa : purW (.arr (l2.length * e) e l2) = true := hp2
  refine jnq (b := b) (k := k) hm hk hk2 ?_ ?_ (nodup_g (Ydq hh) nd)
  · rw [gW_some hne]
    refine ⟨⟨?_, by simp [refB]⟩, subR_low hf hr⟩
    rw [hs]
    simp only [renW, ugq]
  · rw [gH_some hne]
    refine subRH_app (subRH_low hh) ⟨⟨Nat.lt_succ_self _, ?_, zwq hpa⟩, trivial⟩
    rw [ugq, hg, ysq hpa]
theorem q_againG {α : Type} {I : α → Prop} {s : Nat} {L : α → List W} {ty : TypeId} {e : Nat} {V : α → FrW} {kf : FrW} {H0 : HpW} {μ : α → Nat} {kk : Nat} {fr' : FrW} {l2 : List W} {n : Nat} (k : Nat) (a : α) (ha : I a) (hμ : μ a < kk) (hm : m ≤ nw) (hL : L a = l2) (hne : l2 ≠ []) (hk : nw ≤ k) (hk2 : k < nw') (hs : getW fr' s = some (.sl k 0 0 n e none)) (hn : n = l2.length)
    (hv : subF fr' (V a)) (hkf : subF fr' kf) (hr : refF nw (V a)) (hr2 : refF nw kf) (hg : hget hp' k = some (ty, .arr (n * e) e l2)) (hp2 : purL l2 = true) (hh : subH hp' nw H0) (nd : (H0.map (·.1)).Nodup) :
    xdq C G m k0 I (fun a => (s, gW nw e (L a)) :: (V a ++ kf)) (fun a => H0 ++ gH nw ty e (L a)) (fun _ => nw + 1) (fun _ => R) μ kk Q .normal fr' hp' nw' R := by
  subst hL
  exact vtq a ha hμ (jbq k s hm hk hk2 hne hs hn (q4q hv hkf) (xMq hr hr2) hg hp2 hh nd)
theorem refF_up : ∀ {q : FrW}, refF nw q → refF (nw + 1) q
  | [], _ => trivial
  | _ :: _, h => ⟨keq (Nat.le_succ _) h.1, refF_up h.2⟩
theorem vcq {b : Nat} {ty : TypeId} {e : Nat} {H0 : HpW} {l2 : List W} (s : Nat) (hm : m ≤ b) (hnw : b + 1 ≤ nw) (hs : getW fr s = some (gW b e l2)) (hf : subF fr fr2) (hr : refF b fr2) (hg : ∀ x r, l2 = x :: r → hget hp b = some (ty, .arr ((x :: r).length * e) e (x :: r))) (hp2 : purL l2 = true) (hh : subH hp b H0) (nd : (H0.map (·.1)).Nodup) :
    Ent C G m k0 fr hp nw R ((s, gW b e l2) :: fr2) (H0 ++ gH b ty e l2) (b + 1) R := by
  refine uwq (by omega) hnw ⟨hs, hf⟩ ?_ (Yeq (subH_app (subH_mono hh) ?_)) (nodup_g (Ydq hh) nd)
  · refine u1q ⟨?_, refF_up hr⟩
    cases l2 with
    | nil => rfl
    | cons x r => simp [gW, refB]
  · cases l2 with
    | nil => trivial
    | cons x r =>
      have hpa : purW (.arr ((x :: r).length * e) e (x :: r)) = true := hp2
      exact ⟨⟨Nat.lt_succ_self _, hg x r rfl, zwq hpa⟩, trivial⟩
theorem q_againG0 {α : Type} {I : α → Prop} {s : Nat} {L : α → List W} {ty : TypeId} {e : Nat} {V : α → FrW} {kf : FrW} {H0 : HpW} {μ : α → Nat} {kk : Nat} {fr' : FrW} {l2 : List W} (a : α) (ha : I a) (hμ : μ a < kk) (hm : m ≤ nw) (hL : L a = l2) (hs : getW fr' s = some (gW nw e l2))
    (hv : subF fr' (V a)) (hkf : subF fr' kf) (hr : refF nw (V a)) (hr2 : refF nw kf) (hg : hp' = H0 ++ gH nw ty e l2) (hp2 : purL l2 = true) (hh : subH hp' nw H0) (nd : (H0.map (·.1)).Nodup) (hnw : nw + 1 ≤ nw') :
    xdq C G m k0 I (fun a => (s, gW nw e (L a)) :: (V a ++ kf)) (fun a => H0 ++ gH nw ty e (L a)) (fun _ => nw + 1) (fun _ => R) μ kk Q .normal fr' hp' nw' R := by
  subst hL
  refine vtq a ha hμ (vcq s hm hnw hs (q4q hv hkf) (xMq hr hr2) (fun x r hq => ?_) hp2 hh nd)
  rw [hg, hq]
  exact xYq fun p hp => by have := Ydq hh p hp; omega
theorem ent_blk {b : Nat} {ty : TypeId} {w w' : W} (hb : hget hp b = some (ty, w)) (he : ∀ Γ v, RV Γ w v → RV Γ w' v) : Ent C G m k0 fr hp nw R fr (hset hp b (ty, w')) nw R := fun Γ X st h1 _ s => by
  have hold : ∀ {k t u}, hget (hset hp b (ty, w')) k = some (t, u) → ∃ u0, hget hp k = some (t, u0) ∧ ∀ v, RV Γ u0 v → RV Γ u v := fun {k t u} h => by
    rw [kIq hb] at h
    split at h
    · rename_i e
      subst e
      cases h
      exact ⟨w, hb, he Γ⟩
    · exact ⟨u, h, fun _ q => q⟩
  have howns : ∀ {c}, Owns Γ (hset hp b (ty, w')) c → Owns Γ hp c := fun {c} h => by
    obtain ⟨k, ⟨t, u⟩, h1, h2⟩ := h
    obtain ⟨u0, g, _⟩ := hold h1
    exact ⟨k, _, g, h2⟩
  refine ⟨Γ, X, h1, ⟨s.hh, s.fr, ⟨s.sat.wf, fun k t u h => ?_, fun k k' y z hy hz e => ?_, by rw [vGq]; exact s.sat.nd, s.sat.dX, s.sat.xlt, s.sat.dlt, s.sat.res, s.sat.gl⟩, fun d hd => ?_, s.nd⟩, ⟨fun _ _ => rfl, fun h => h, Nat.le_refl _, fun _ _ _ _ => rfl, fun _ h => h, fun _ h => .inl h, fun k y _ h => ?_, fun k y hk h => ?_, fun _ h => .inl h, fun _ h _ _ => h⟩⟩
  · obtain ⟨u0, g1, g2⟩ := hold h
    obtain ⟨q1, q2, q3, v, q4, q5⟩ := s.sat.own k t u0 g1
    exact ⟨q1, q2, q3, v, q4, g2 v q5⟩
  · obtain ⟨y1, y2⟩ := y
    obtain ⟨z1, z2⟩ := z
    obtain ⟨u0, g1, _⟩ := hold hy
    obtain ⟨u1, g2, _⟩ := hold hz
    exact s.sat.inj k k' _ _ g1 g2 e
  · obtain ⟨q1, q2, q3, q4, q5⟩ := s.ds d hd
    exact ⟨q1, q2, q3, fun h => q4 (howns h), q5⟩
  · obtain ⟨y1, y2⟩ := y
    obtain ⟨u0, g1, _⟩ := hold h
    exact ⟨_, g1⟩
  · obtain ⟨y1, y2⟩ := y
    obtain ⟨u0, g1, _⟩ := hold h
    exact .inr ⟨k, _, hk, g1, rfl⟩
theorem ent_one {b : Nat} {ty : TypeId} {e : Nat} {x : W} (k s : Nat) (hm : m ≤ b) (hk : b ≤ k) (hk2 : k < nw) (hs : getW fr s = some (.sl k 0 0 1 e none)) (hg : hget hp k = some (ty, x)) (hxa : x.isAgg = true) (hxs : x.size = e) (hp2 : purW x = true) : Ent C G m k0 fr hp nw R [(s, gW b e [x])] (gH b ty e [x]) (b + 1) R := by
  refine (ent_blk hg (w' := .arr (1 * e) e [x]) fun Γ v hv => ?_).trans (jbq (fr2 := []) (H0 := []) k s hm hk hk2 (by simp) hs rfl trivial trivial (by rw [kIq hg, if_pos rfl]) (by simp only [purL, hp2, Bool.and_self]) trivial List.nodup_nil)
  refine ⟨by rw [← hv.1, hxa]; rfl, ?_⟩
  have hl := qPq hv.2
  simp only [RS]
  exact ⟨by omega, fun y hy => by simp at hy; rw [hy, hxs], RSL_one hv.2⟩
theorem vjq {o : Oper} {post : W → HpW → Nat → Res → Option EvW → Prop} {x : Operand} {xs : Array Operand} {ats : Array TypeId} {f : FuncId} {a us c ws : List W} {Q : W → HpW → Nat → Prop} (ho : o.op = .call ⟨.value x, xs, ats⟩) (hx : evW C G fr x = some (.fn f a c)) (he : C.ext f = none) (hxs : evLW C G fr xs.toList = some us) (hws : a ++ us ++ c = ws) (hpw : purL ws = true) (sp : qFq C G f 0 ws [] Q)
    (hpost : ∀ w hp1 nw1, Q w hp1 nw1 → post (renW (numC [] nw) w) (renH (numC [] nw) hp1 ++ hp) (nw + nw1) R (some .gen)) : Step C G o fr hp nw R post := fun Γ X frv hnw s hf => by
  subst hnw
  obtain ⟨u, e1, e2⟩ := z8q hf s.gl hx
  obtain ⟨a', c', rfl, e3, e4⟩ := RV_fn.1 e2
  obtain ⟨us', e5, e6⟩ := kmq hf s.gl hxs
  have app : ∀ {l r : List W} {l' r' : List V}, RVL Γ l l' → RVL Γ r r' → RVL Γ (l ++ r) (l' ++ r') := fun {l} => by
    induction l with
    | nil => intro r l' r' h1 h2; simp only [RVL] at h1; subst h1; exact h2
    | cons w l ih =>
      intro r l' r' h1 h2
      simp only [RVL] at h1
      obtain ⟨v, vs, rfl, h3, h4⟩ := h1
      simp only [List.cons_append, RVL]
      exact ⟨v, vs ++ r', rfl, h3, ih h4 h2⟩
  have hv := app (app e3 e6) e4
  rw [hws, ← jvq (τ := numC [] Γ.nw) hpw] at hv
  obtain ⟨n, v, Γ', w, hp1, nw1, g1, g2, g3, g4, g5, g6, g7, g8⟩ := call_spec (ext := []) sp s List.nodup_nil (by simp) (by simp) (fun i ty w h => by simp [hget] at h) (zwq (w := .tup ws) hpw) hv
  obtain ⟨k1, k2⟩ := uzq (C := C) ho frv Γ.h
  refine ⟨n, _, _, R, some .gen, v, Γ'.h, Γ', X, by rw [g3]; exact hpost w hp1 nw1 g2, ?_, ⟨k1, fun H1 e1' e2' => ?_⟩, rfl, g4, g5, g6, g7⟩
  · simp only [opV, k1, k2]
    simp only [ho, qVq, e1, e5, he]
    exact g1
  · have := g8 rfl e2'
    simp only [EvR, ho, evOf]
    rw [e1', Nat.ble_eq_true_of_le this]
noncomputable def PL (C : Cfg) (G : Nat → Option W) (f : FuncId) (ws : List W) (ty : TypeId) (e : Nat) (l : List W) : Prop := qFq C G f 0 ws [] fun w hp nw => w = gW 0 e l ∧ hp = gH 0 ty e l ∧ nw = 1
theorem PL.ps {C : Cfg} {G : Nat → Option W} {f : FuncId} {ws : List W} {ty : TypeId} {e : Nat} {l : List W} (h : PL C G f ws ty e l) (he : 0 < e) (hl : purL l = true) : PS C G f ws (.fz l e false) := fun R =>
  vkq fun Γ X vs h1 s hv => by
    obtain ⟨n, v, Γ', X', w, hp', R', g1, g2, g3, g4, g5, rfl, rfl, g6⟩ := h R Γ X vs h1 s hv
    exact ⟨n, v, Γ', X', _, _, R', g1, g2, g3, g4, g5, Zwq (H0 := []) he hl (by simp)⟩
theorem kDq {o : Oper} {post : W → HpW → Nat → Res → Option EvW → Prop} {x : Operand} {xs : Array Operand} {ats : Array TypeId} {f : FuncId} {a us c ws : List W} {ty : TypeId} {e : Nat} {l : List W} (ho : o.op = .call ⟨.value x, xs, ats⟩) (hx : evW C G fr x = some (.fn f a c)) (he : C.ext f = none) (hxs : evLW C G fr xs.toList = some us) (hws : a ++ us ++ c = ws) (hpw : purL ws = true) (sp : PL C G f ws ty e l) (hl : purL l = true)
    (hpost : post (gW nw e l) (gH nw ty e l ++ hp) (nw + 1) R (some .gen)) : Step C G o fr hp nw R post := by
  refine vjq ho hx he hxs hws hpw sp ?_
  rintro w hp1 nw1 ⟨rfl, rfl, rfl⟩
  have e1 : renW (numC [] nw) (gW 0 e l) = gW nw e l := by
    cases l with
    | nil => rfl
    | cons x r => simp only [gW, renW]; rfl
  have e2 : renH (numC [] nw) (gH 0 ty e l) = gH nw ty e l := by
    cases l with
    | nil => rfl
    | cons x r =>
      have hpa : purW (.arr ((x :: r).length * e) e (x :: r)) = true := hl
      simp only [gH, renH, ysq hpa]; rfl
  rw [e1, e2]
  exact hpost
variable {ops : Array Oper} {l : List Oper} {K : FrW → HpW → Nat → Res → Prop} {hp2 : HpW} {nw2 : Nat} {R2 : Res}
theorem uMq (e : ∀ k0, Ent C G m k0 fr hp nw R fr2 hp2 nw2 R2) (h : OpW C G m ops l fr2 hp2 nw2 R2 K) : OpW C G m ops l fr hp nw R K := fun Γ X frv hnw hm s hf => by
  obtain ⟨Γ2, X2, e1, e2, e3⟩ := e 0 Γ X ⟨frv, Γ.h, [], false⟩ hnw hm ⟨rfl, hf, s, by simp, List.nodup_nil⟩
  obtain ⟨n, frv', Γ', X', fr', hp', R', g1, g2, g3, g4, g5⟩ := h Γ2 X2 frv e1 (e1 ▸ e3.mle (hnw ▸ hm)) e2.sat e2.fr
  have hh : Γ.h = Γ2.h := e2.hh
  exact ⟨n, frv', Γ', X', fr', hp', R', by rw [hh]; exact g1, g2, g3, e3.trans g4, g5⟩
theorem op_z {o : Oper} {k : IntKind} {z : Int} (z' : Int) (hw : qrq ops fr o = some true) (hx : qaq C G fr o.op = some (.int k (kyq k z))) (e : z = z') (hz : inK k z') (h : OpW C G m ops l (putW fr o.dst (.int k z')) hp nw R K) : OpW C G m ops (o :: l) fr hp nw R K := by
  subst e; exact unq hw hx hz h
theorem Ytq {o : Oper} {ts tx ty : TypeId} {j k : TyI} {x y : Operand} {u : W} {xs news : List W} {b e d : Nat} {H0 : HpW} (P : HpW) (fr2 : FrW) (he : e = k.size) (hw : qrq ops fr o = some true) (ho : o.op = .call ⟨.builtin .append, #[x, y], #[ts, tx]⟩) (hd0 : o.dst = some d) (hx : evW C G fr x = some (gW b e xs)) (hy : evW C G fr y = some u)
    (hj : C.ty ts = some j) (hd : j.d = .slice ty) (hk : C.ty ty = some k) (hz : Nat.beq k.size 0 = false) (hs : srcW C hp tx k.size u = some news) (h1 : (xs.length + news.length) * k.bytes ≤ 140737488355328) (h2 : xs.length + news.length ≤ 70368744177664) (hg : hp = P ++ gH b ty e xs) (hP : ∀ p ∈ P, p.1 ≠ b) (hm : m ≤ b) (hb : b < nw)
    (hf : subF fr fr2) (hdf : getW fr2 d = none) (hr : refF b fr2) (hpx : purL (xs ++ news) = true) (hh : subH P b H0) (nd : (H0.map (·.1)).Nodup)
    (h : OpW C G m ops l ((d, gW b e (xs ++ news)) :: fr2) (H0 ++ gH b ty e (xs ++ news)) (b + 1) R K) : OpW C G m ops (o :: l) fr hp nw R K := by
  have hput : ∀ w, subF (putW fr o.dst w) fr2 := fun w => by
    rw [hd0]
    have key : ∀ {q : FrW}, subF fr q → getW q d = none → subF (putW fr (some d) w) q := fun {q} => by
      induction q with
      | nil => exact fun _ _ => trivial
      | cons p q ih =>
        obtain ⟨t, v⟩ := p
        intro h1 h2
        simp only [getW] at h2
        split at h2
        · cases h2
        · rename_i hne
          refine ⟨?_, ih h1.2 h2⟩
          show getW ((d, w) :: fr) t = some v
          have : Nat.beq d t = false := by
            cases hq : Nat.beq d t with
            | false => rfl
            | true =>
              have := Nat.eq_of_beq_eq_true hq
              subst this
              rw [Nat.beq_refl] at hne; cases hne
          simp only [getW, this]
          exact h1.1
    exact key hf hdf
  have front : ∀ {Q : HpW} {q : HpW}, subH P b q → subH (P ++ Q) b q := fun {Q q} => by
    induction q with
    | nil => exact fun _ => trivial
    | cons p q ih => exact fun h => ⟨⟨h.1.1, ZKq h.1.2.1, h.1.2.2⟩, ih h.2⟩
  cases news with
  | nil =>
    have ha : opHW C G fr hp nw o.op = some (gW b e xs, hp, nw, .gen) := by rw [ho]; exact jBq hx hy (app_gr0 he hj hd hk hz hs)
    refine zeq hw ha ?_
    rw [List.append_nil] at h hpx
    refine uMq (fun k0 => vcq (b := b) (l2 := xs) d hm (by omega) (by rw [hd0]; show getW ((d, gW b e xs) :: fr) d = _; simp [getW]) (hput _) hr (fun x r hq => ?_) hpx (by rw [hg]; exact front hh) nd) h
    rw [hg, hq]
    exact xYq hP
  | cons z zs =>
    have ha : opHW C G fr hp nw o.op = some (.sl nw 0 0 (xs ++ z :: zs).length e none, (nw, ty, .arr ((xs ++ z :: zs).length * e) e (xs ++ z :: zs)) :: P, nw + 1, evG xs) := by
      rw [ho]; exact jBq hx hy (Z2q P he hj hd hk hz hs (by simp) h1 h2 hg hP)
    refine zeq hw ha ?_
    refine uMq (fun k0 => jbq nw d hm (by omega) (Nat.lt_succ_self _) (by simp) (by rw [hd0]; show getW ((d, _) :: fr) d = _; simp [getW]) rfl (hput _) hr (by rw [zFq, if_pos rfl]) hpx ?_ nd) h
    have key : ∀ {q : HpW}, subH P b q → subH ((nw, ty, W.arr ((xs ++ z :: zs).length * e) e (xs ++ z :: zs)) :: P) b q := fun {q} => by
      induction q with
      | nil => exact fun _ => trivial
      | cons p q ih =>
        obtain ⟨c, y⟩ := p
        exact fun h => ⟨⟨h.1.1, by rw [zFq, if_neg (by have := h.1.1; omega)]; exact h.1.2.1, h.1.2.2⟩, ih h.2⟩
    exact key hh
end
end Go.Proofs.Ytgeelfdgnehdnaa
namespace Go.Proofs.Ytgeelfdgnehdnaa
open Go.RowKit
set_option linter.unusedSimpArgs false
set_option linter.unusedVariables false
attribute [local irreducible] CoW OpW FlW Step Spec
variable {G : Nat → Option W}
theorem vmq (l : List UInt8) (f : Bool) (hl : l.length ≤ 70368744177664) : PS cfg G 36 [.fz (zBq l) 1 f] (bW l) := by
  refine uLq (fn := Try.f36) rfl rfl rfl (Nat.le_of_ble_eq_true rfl) (fun R k0 => ?_)
  cases l with
  | nil =>
    skip
    refine zcq (zbq (zaq rfl rfl (zdq ?_)))
    refine zfq (zcq (zbq (zaq rfl rfl (zdq ?_))))
    refine zfq (zcq (zbq (zaq rfl rfl (zaq rfl rfl (zeq rfl (jBq rfl rfl (YRq rfl rfl rfl rfl rfl)) (zaq rfl rfl (zdq ?_)))))))
    refine zfq (zjq ?_)
    refine xyq (by first | exact .inr rfl | exact .inl rfl) rfl ?_
    (repeat (first | exact .nil | refine .cons ?_ ?_ | exact qIq | exact .nilfz | refine .fn ?_ ?_ | (refine qlq rfl ?_ rfl; (first | rfl | (focus (simp; done)))) | (refine .sl rfl ?_ rfl (by intro h; cases h); (first | rfl | (focus (simp; done)))) | (refine .pur ?_; (first | rfl | (focus (simp; done)))) | (refine .fzw ?_; (first | rfl | (focus (simp; done)))) | refine .agg ?_ | refine .arr ?_ | refine .tup ?_))
  | cons c l =>
    simp only [List.length_cons] at hl
    refine zcq (zbq (zaq rfl rfl (zdq ?_)))
    refine zfq (zcq (zbq (zaq rfl rfl (zdq ?_))))
    refine zfq (zcq (zbq (zaq rfl rfl (zaq rfl rfl (zeq rfl (jBq rfl rfl (Zfq (news := zBq (c :: l)) (k := ti5) rfl rfl rfl rfl rfl (by simp [zBq]) (by show (zBq (c :: l)).length * 1 ≤ _; rw [yoq]; simp only [List.length_cons]; omega) (by rw [yoq]; simp only [List.length_cons]; omega))) ?_)))))
    refine zaq rfl rfl (zdq ?_)
    refine zfq (zjq ?_)
    refine xyq (by first | exact .inr rfl | exact .inl rfl) rfl ?_
    exact view_sl (by decide) rfl (by simp)
@[simp] theorem psW_drop (ps : List Pr) (i : Nat) : purL ((ps.map pW).drop i) = true := by rw [← List.map_drop]; exact jLq _
@[simp] theorem psW_take (ps : List Pr) (i : Nat) : purL ((ps.map pW).take i) = true := by rw [← List.map_take]; exact jLq _
theorem rptwin_s (ps : List Pr) (f : Bool) (hb : ps.length ≤ 1000000000) (hv : ∀ x ∈ ps, x.2.length ≤ 70368744177664) : PS cfg G 82 [.fz (ps.map pW) 33 f] (psW ps) := by
  have e : (ps.map pW).length = ps.length := List.length_map _
  refine uLq (fn := Try.f82) rfl rfl rfl (Nat.le_of_ble_eq_true rfl) (fun R k0 => ?_)
  refine zcq (zbq (zaq rfl rfl (zdq ?_)))
  refine zfq (zcq (zbq (zaq rfl rfl (zdq ?_))))
  refine zfq (zcq (zcq (zbq (zaq rfl rfl (zdq ?_)))))
  refine zfq (zmq ?_)
  refine co_loopG (α := Nat) (fun i => i ≤ ps.length) 3 (fun i => (ps.take i).map pW) 88 33 (fun i => [(4, .int .i64 (i : Int))]) [(0, _), (2, _)] _ (fun i => ps.length - i) (0) ⟨rfl, rfl, trivial⟩ (Nat.zero_le _) ⟨rfl, trivial⟩ rfl rfl rfl (fun i hI => ?_)
  refine zcq (zcq (zbq (zaq rfl rfl (zaq rfl rfl (zNq (w' := .int .i64 (ps.length : Int)) rfl rfl (by rw [← e]; rfl) ?_)))))
  refine zCq rfl rfl ?_
  refine zdq ?_
  refine zfq ?_
  refine zEq rfl (fun h1 => ?_) (fun h1 => ?_)
  · have hi : i < ps.length := by omega
    obtain ⟨x, hx⟩ : ∃ x, ps[i]? = some x := ⟨_, List.getElem?_eq_getElem hi⟩
    have hxv := hv x (List.mem_of_getElem? hx)
    refine ziq (zfq (zcq (zmq (zZq (zhq rfl rfl (zhq rfl rfl (zhq rfl rfl (zhq rfl (z7q (i := i) rfl rfl rfl rfl rfl rfl rfl (yLq pW hx)) (zhq rfl rfl (zDq rfl rfl ?_))))))))))
    refine zhq rfl rfl (zhq rfl rfl (zhq rfl (z7q (i := i) rfl rfl rfl rfl rfl rfl rfl (yLq pW hx)) (zhq rfl rfl (zDq rfl rfl ?_))))
    refine qUq rfl rfl rfl rfl rfl rfl (vmq _ _ (by first | assumption | omega)) ?_
    refine zhq rfl rfl (zDq rfl rfl ?_)
    refine jiq rfl (jBq rfl rfl (Z2q [_] (k := ti88) (news := [pW x]) rfl rfl rfl rfl rfl (jRq rfl rfl rfl rfl) (by simp) (by show (((ps.take i).map pW).length + 1) * 56 ≤ _; simp; omega) (by show ((ps.take i).map pW).length + 1 ≤ _; simp; omega) rfl (by simp))) (evs_G (by first | rfl | kernel_rfl) (by first | rfl | kernel_rfl)) ?_
    refine zhq rfl rfl (z6q ?_)
    refine zrq (by intro i h; cases h) ?_
    refine zfq (zbq (zaq rfl rfl (zyq (i + 1) rfl rfl (by first | rfl | omega) ⟨by omega, by omega⟩ ?_)))
    refine zaq rfl rfl (zdq ?_)
    exact q_againG 2 (i + 1) (hi) (by omega) (Nat.zero_le _) (by rw [List.take_add_one, hx, List.map_append]; rfl) (by simp) (by omega) (by first | omega | decide) rfl rfl ⟨rfl, trivial⟩ ⟨rfl, rfl, trivial⟩ (by repeat (first | exact trivial | refine ⟨by first | rfl | exact zwq (by first | rfl | (simp; done)), ?_⟩)) (by repeat (first | exact trivial | refine ⟨by first | rfl | exact zwq (by first | rfl | (simp; done)), ?_⟩)) rfl (by first | rfl | assumption | (simp; done)) (by repeat (first | exact trivial | refine ⟨⟨by decide, rfl, by first | rfl | exact zwq (by first | rfl | (simp; done))⟩, ?_⟩)) (by first | decide | simp)
  · have hi : i = ps.length := by omega
    subst hi
    refine ytq ?_
    refine zlq (by intro h; cases h) ?_
    refine q_out (by intro h; cases h) ?_
    refine qoq (zfq (zcq (zbq (zaq rfl rfl (zaq rfl rfl (zdq ?_))))))
    refine zfq (zjq ?_)
    refine xyq (by first | exact .inr rfl | exact .inl rfl) rfl ?_
    rw [List.take_length]
    exact Zwq (H0 := []) (by decide) (jLq _) (by simp)
def idxP (ps : List Pr) (k : Dig) : Int := match ps.findIdx? (fun p => decide (p.1 = k)) with
  | some i => i
  | none => -1
theorem rfind_s (ps : List Pr) (f : Bool) (k : Dig) (hb : ps.length ≤ 1000000000) : PS cfg G 39 [.fz (ps.map pW) 33 f, dW k] (.int .i64 (idxP ps k)) := by
  have e : (ps.map pW).length = ps.length := List.length_map _
  refine ynq (fn := Try.f39) rfl rfl rfl (Nat.le_of_ble_eq_true rfl) (fun R k0 => ?_)
  refine zcq (zbq (zeq rfl rfl (zaq rfl rfl (zdq ?_))))
  refine zfq (zcq (zcq (zbq (zaq rfl rfl (zdq ?_)))))
  refine zfq (zmq ?_)
  refine ySq (α := Nat) (fun i => i ≤ ps.length ∧ ∀ j x, j < i → ps[j]? = some x → x.1 ≠ k) (fun i => [(5, .int .i64 (i : Int))]) [(0, _), (3, _), (4, _)] (fun i => ps.length - i) (0) ⟨rfl, rfl, rfl, trivial⟩ (⟨Nat.zero_le _, fun j x h => by omega⟩) ⟨rfl, trivial⟩ (fun i hI => ?_)
  obtain ⟨g1, g2⟩ := hI
  refine zcq (zcq (zbq (zaq rfl rfl (zaq rfl rfl (zNq (w' := .int .i64 (ps.length : Int)) rfl rfl (by rw [← e]; rfl) ?_)))))
  refine zCq rfl rfl ?_
  refine zdq ?_
  refine zfq ?_
  refine zEq rfl (fun h1 => ?_) (fun h1 => ?_)
  · have hi : i < ps.length := by omega
    obtain ⟨x, hx⟩ : ∃ x, ps[i]? = some x := ⟨_, List.getElem?_eq_getElem hi⟩
    refine ziq (zfq (zcq (zmq (zcq (zZq (zhq rfl rfl (zhq rfl rfl (zhq rfl (z7q (i := i) rfl rfl rfl rfl rfl rfl rfl (yLq pW hx)) (zhq rfl rfl (zDq rfl rfl ?_))))))))))
    refine zDq rfl rfl ?_
    refine fl_cmp rfl (qkq rfl rfl rfl rfl (qOq rfl rfl rfl rfl rfl rfl _ _ 250)) yPq ?_
    refine z6q ?_
    refine zfq ?_
    refine zEq rfl (fun h2 => ?_) (fun h2 => ?_)
    · refine zcq (zbq (zaq rfl rfl (zaq rfl rfl (zdq ?_))))
      refine zfq (zjq ?_)
      refine zrq (by intro i h; cases h) ?_
      refine zlq (by intro h; cases h) ?_
      refine yhq (by intro h; cases h) ?_
      refine zrq (by intro i h; cases h) ?_
      refine zlq (by intro h; cases h) ?_
      refine znq (.inr rfl) rfl ?_
      have : ps.findIdx? (fun p => decide (p.1 = k)) = some i := by
        rw [List.findIdx?_eq_some_iff_getElem]
        refine ⟨hi, ?_, fun j hj => ?_⟩
        · have := (List.getElem?_eq_some_iff.1 hx).2
          rw [this]; exact decide_eq_true h2
        · simp only [decide_eq_true_eq]
          exact g2 j _ hj (List.getElem?_eq_getElem (by omega))
      unfold idxP
      rw [this]
    · refine ziq (zrq (by intro i h; cases h) ?_)
      refine zfq (zbq (zaq rfl rfl (zyq (i + 1) rfl rfl (by first | rfl | omega) ⟨by omega, by omega⟩ ?_)))
      refine zaq rfl rfl (zdq ?_)
      exact ykq (i + 1) (⟨hi, fun j y hj hy => by rcases Nat.lt_succ_iff_lt_or_eq.1 hj with q | rfl; exact g2 j y q hy; have := Option.some.inj (hx.symm.trans hy); subst this; exact h2⟩) (by omega) ⟨rfl, trivial⟩ ⟨rfl, rfl, rfl, trivial⟩ (by repeat (first | exact trivial | refine ⟨by first | rfl | exact zwq (by first | rfl | (simp; done)), ?_⟩)) (by omega) (by repeat (first | exact zOq | refine zRq (by omega) ?_ | refine zPq (by omega) ?_ | refine zQq (by omega) ?_)) rfl
  · refine ytq ?_
    refine zlq (by intro h; cases h) ?_
    refine yhq (by intro h; cases h) ?_
    refine qoq (zfq (zcq (zbq (zaq rfl rfl (zdq ?_)))))
    refine zfq (zjq ?_)
    refine znq (.inr rfl) rfl ?_
    have : ps.findIdx? (fun p => decide (p.1 = k)) = none := by
      rw [List.findIdx?_eq_none_iff]
      intro x hx
      obtain ⟨j, hj⟩ := List.getElem?_of_mem hx
      have := (List.getElem?_eq_some_iff.1 hj).1
      exact decide_eq_false (g2 j x (by omega) hj)
    unfold idxP
    rw [this]
theorem uFq (ps : List Pr) (k : Dig) {i : Nat} {x : Pr} (hx : ps[i]? = some x) : ycq (ps.take (i + 1)) k = if x.1 = k then ycq (ps.take i) k else ycq (ps.take i) k ++ [x] := by
  unfold ycq
  rw [List.take_add_one, hx]
  simp only [Option.toList_some, List.filter_append]
  split
  · rename_i h; simp [h]
  · rename_i h; simp [h]
theorem without_len (ps : List Pr) (k : Dig) (i : Nat) : (ycq (ps.take i) k).length ≤ ps.length := Nat.le_trans (List.length_filter_le _ _) (by simp; omega)
theorem ZCq (ps : List Pr) (f : Bool) (k : Dig) (hb : ps.length ≤ 1000000000) (hv : ∀ x ∈ ps, x.2.length ≤ 70368744177664) : PS cfg G 65 [.fz (ps.map pW) 33 f, dW k] (psW (ycq ps k)) := by
  have e : (ps.map pW).length = ps.length := List.length_map _
  have hb' : (ycq ps k).length ≤ 1000000000 := Nat.le_trans (List.length_filter_le _ _) hb
  have hv' : ∀ x ∈ ycq ps k, x.2.length ≤ 70368744177664 := fun x hx => hv x (mem_withoutL.1 hx).1
  refine uLq (fn := Try.f65) rfl rfl rfl (Nat.le_of_ble_eq_true rfl) (fun R k0 => ?_)
  refine zcq (zbq (zeq rfl rfl (zaq rfl rfl (zdq ?_))))
  refine zfq (zcq (zbq (zaq rfl rfl (zdq ?_))))
  refine zfq (zcq (zcq (zbq (zaq rfl rfl (zdq ?_)))))
  refine zfq (zmq ?_)
  refine co_loopG (α := Nat) (fun i => i ≤ ps.length) 5 (fun i => (ycq (ps.take i) k).map pW) 88 33 (fun i => [(6, .int .i64 (i : Int))]) [(0, _), (3, _), (4, _)] _ (fun i => ps.length - i) (0) ⟨rfl, rfl, rfl, trivial⟩ (Nat.zero_le _) ⟨rfl, trivial⟩ rfl rfl rfl (fun i hI => ?_)
  have hl := without_len ps k i
  refine zcq (zcq (zbq (zaq rfl rfl (zaq rfl rfl (zNq (w' := .int .i64 (ps.length : Int)) rfl rfl (by rw [← e]; rfl) ?_)))))
  refine zCq rfl rfl ?_
  refine zdq ?_
  refine zfq ?_
  refine zEq rfl (fun h1 => ?_) (fun h1 => ?_)
  · have hi : i < ps.length := by omega
    obtain ⟨x, hx⟩ : ∃ x, ps[i]? = some x := ⟨_, List.getElem?_eq_getElem hi⟩
    refine ziq (zfq (zcq (zmq (zcq (zZq (zhq rfl rfl (zhq rfl rfl (zhq rfl (z7q (i := i) rfl rfl rfl rfl rfl rfl rfl (yLq pW hx)) (zhq rfl rfl (zDq rfl rfl ?_))))))))))
    refine zDq rfl rfl ?_
    refine fl_cmp rfl (uBq rfl rfl rfl rfl (qOq rfl rfl rfl rfl rfl rfl _ _ 250)) (uoq yPq) ?_
    refine z6q ?_
    refine zfq ?_
    refine zEq rfl (fun h2 => ?_) (fun h2 => ?_)
    · refine zbq (zaq rfl rfl (zaq rfl rfl (zaq rfl rfl (zaq rfl (z7q (i := i) rfl rfl rfl rfl rfl rfl rfl (yLq pW hx)) (zeq rfl rfl (zeq rfl rfl (zeq rfl (jBq rfl rfl (Z2q [_, _] (k := ti88) (news := [pW x]) rfl rfl rfl rfl rfl (jRq rfl rfl rfl rfl) (by simp) (by show (((ycq (ps.take i) k).map pW).length + 1) * 56 ≤ _; rw [List.length_map]; omega) (by show ((ycq (ps.take i) k).map pW).length + 1 ≤ _; rw [List.length_map]; omega) rfl (by simp))) ?_)))))))
      refine zaq rfl rfl (zdq ?_)
      refine zrq (by intro i h; cases h) ?_
      refine zfq (zbq (zaq rfl rfl (zyq (i + 1) rfl rfl (by first | rfl | omega) ⟨by omega, by omega⟩ ?_)))
      refine zaq rfl rfl (zdq ?_)
      exact q_againG 3 (i + 1) (hi) (by omega) (Nat.zero_le _) (by rw [uFq ps k hx, if_neg h2, List.map_append]; rfl) (by simp) (by omega) (by first | omega | decide) rfl rfl ⟨rfl, trivial⟩ ⟨rfl, rfl, rfl, trivial⟩ (by repeat (first | exact trivial | refine ⟨by first | rfl | exact zwq (by first | rfl | (simp; done)), ?_⟩)) (by repeat (first | exact trivial | refine ⟨by first | rfl | exact zwq (by first | rfl | (simp; done)), ?_⟩)) rfl (by first | rfl | assumption | (simp; done)) (by repeat (first | exact trivial | refine ⟨⟨by decide, rfl, by first | rfl | exact zwq (by first | rfl | (simp; done))⟩, ?_⟩)) (by first | decide | simp)
    · have hxk : x.1 = k := by simpa using h2
      refine ziq (zrq (by intro i h; cases h) ?_)
      refine zfq (zbq (zaq rfl rfl (zyq (i + 1) rfl rfl (by first | rfl | omega) ⟨by omega, by omega⟩ ?_)))
      refine zaq rfl rfl (zdq ?_)
      exact q_againG0 (i + 1) (hi) (by omega) (Nat.zero_le _) (by rw [uFq ps k hx, if_pos hxk]) rfl ⟨rfl, trivial⟩ ⟨rfl, rfl, rfl, trivial⟩ (by repeat (first | exact trivial | refine ⟨by first | rfl | exact zwq (by first | rfl | (simp; done)), ?_⟩)) (by repeat (first | exact trivial | refine ⟨by first | rfl | exact zwq (by first | rfl | (simp; done)), ?_⟩)) rfl (by first | rfl | assumption | (simp; done)) (by repeat (first | exact trivial | refine ⟨⟨by decide, rfl, by first | rfl | exact zwq (by first | rfl | (simp; done))⟩, ?_⟩)) (by first | decide | simp) (by omega)
  · have hi : i = ps.length := by omega
    subst hi
    rw [List.take_length]
    refine ytq ?_
    refine zlq (by intro h; cases h) ?_
    refine q_out (by intro h; cases h) ?_
    refine qoq (zfq (zcq (zbq ?_)))
    refine uMq (fun _ => ent_frzA (fr2 := [(5, psW (ycq ps k))]) ⟨⟨_, rfl, Zwq (H0 := [(0, 26, dW k)]) (by decide) (jLq _) (by simp)⟩, trivial⟩) ?_; refine zaq rfl rfl ?_
    refine ztq rfl rfl rfl rfl rfl rfl (rptwin_s _ _ (by assumption) (by assumption)) ?_
    refine zaq rfl rfl (zdq ?_)
    refine zfq (zjq ?_)
    refine xyq (by first | exact .inr rfl | exact .inl rfl) rfl ?_
    (repeat (first | exact .nil | refine .cons ?_ ?_ | exact qIq | exact .nilfz | refine .fn ?_ ?_ | (refine qlq rfl ?_ rfl; (first | rfl | (focus (simp; done)))) | (refine .sl rfl ?_ rfl (by intro h; cases h); (first | rfl | (focus (simp; done)))) | (refine .pur ?_; (first | rfl | (focus (simp; done)))) | (refine .fzw ?_; (first | rfl | (focus (simp; done)))) | refine .agg ?_ | refine .arr ?_ | refine .tup ?_))
def withR (l : List Pr) (k : Dig) (v : List UInt8) : List Pr := (ycq l k).takeWhile (fun p => ypq p.1 k) ++ (k, v) :: (ycq l k).dropWhile (fun p => ypq p.1 k)
theorem Zxq {α : Type} {p : α → Bool} : ∀ {l : List α} {n : Nat}, n ≤ l.length → (∀ j x, j < n → l[j]? = some x → p x = true) → (∀ x, l[n]? = some x → p x = false) → l.takeWhile p = l.take n ∧ l.dropWhile p = l.drop n
  | [], n, h, _, _ => by simp at h; subst h; simp
  | x :: l, 0, _, _, h => by have := h x rfl; simp [this]
  | x :: l, n + 1, h, h1, h2 => by
    have hx := h1 0 x (by omega) rfl
    obtain ⟨q1, q2⟩ := Zxq (l := l) (n := n) (by simpa using h) (fun j y hj hy => h1 (j + 1) y (by omega) (by simpa using hy)) (fun y hy => h2 y (by simpa using hy))
    simp [hx, q1, q2]
theorem rwith_s (ps : List Pr) (f g : Bool) (k : Dig) (v : List UInt8) (hb : ps.length ≤ 1000000) (hv : ∀ x ∈ ps, x.2.length ≤ 70368744177664) (hw : v.length ≤ 70368744177664) : PS cfg G 66 [.fz (ps.map pW) 33 f, dW k, .fz (zBq v) 1 g] (psW (withR ps k v)) := by
  have hb2 : ps.length ≤ 1000000000 := by omega
  obtain ⟨rs, hrs⟩ : ∃ rs, rs = ycq ps k := ⟨_, rfl⟩
  have hl : rs.length ≤ 1000000 := by rw [hrs]; exact Nat.le_trans (List.length_filter_le _ _) hb
  have e : (rs.map pW).length = rs.length := List.length_map _
  refine uLq (fn := Try.f66) rfl rfl rfl (Nat.le_of_ble_eq_true rfl) (fun R k0 => ?_)
  refine zcq (zbq (zeq rfl rfl (zaq rfl rfl (zdq ?_))))
  refine zfq (zcq (zbq (zaq rfl rfl (zeq rfl rfl (ztq rfl rfl rfl rfl rfl rfl (y2q (w' := psW rs) (ZCq ps f k hb2 hv) (by rw [hrs])) ?_)))))
  refine zaq rfl rfl (zdq ?_)
  refine zfq (zcq (zbq (zaq rfl rfl (zdq ?_))))
  refine zfq (zcq (zmq ?_))
  refine ySq (α := Nat) (fun n => n ≤ rs.length ∧ ∀ j x, j < n → rs[j]? = some x → ypq x.1 k = true) (fun n => [(8, .int .i64 (n : Int))]) [(2, _), (4, _), (6, _), (7, _)] (fun n => rs.length - n) (0) ⟨rfl, rfl, rfl, rfl, trivial⟩ (⟨Nat.zero_le _, fun j x h => by omega⟩) ⟨rfl, trivial⟩ (fun n hI => ?_)
  obtain ⟨g1, g2⟩ := hI
  have el : ((rs.take n).map pW).length = n := by simp; omega
  have rest : (∀ x, rs[n]? = some x → ypq x.1 k = false) → withR ps k v = rs.take n ++ (k, v) :: rs.drop n := fun h => by
    obtain ⟨q1, q2⟩ := Zxq g1 g2 h
    unfold withR
    rw [← hrs, q1, q2]
  refine zcq (zcq (zZq (zhq rfl rfl (zhq rfl rfl (fl_val (w' := .int .i64 (rs.length : Int)) rfl rfl (by rw [← e]; rfl) ?_)))))
  refine fl_dz rfl rfl (fun h1 => ?_) (fun h1 => ?_)
  · have hn : n < rs.length := by omega
    obtain ⟨x, hx⟩ : ∃ x, rs[n]? = some x := ⟨_, List.getElem?_eq_getElem hn⟩
    refine zhq rfl rfl (zhq rfl rfl (zhq rfl rfl (zhq rfl (z7q (i := n) rfl rfl rfl rfl rfl rfl rfl (yLq pW hx)) (zhq rfl rfl (zDq rfl rfl ?_)))))
    refine zDq rfl rfl ?_
    refine qUq rfl rfl rfl rfl rfl rfl (rahead_s _ _) ?_
    refine zhq rfl rfl (z6q ?_)
    refine zfq ?_
    refine zEq rfl (fun h2 => ?_) (fun h2 => ?_)
    · refine ziq (zfq (zmq (zbq (zaq rfl rfl (zyq (n + 1) rfl rfl (by first | rfl | omega) ⟨by omega, by omega⟩ ?_)))))
      refine zaq rfl rfl (zdq ?_)
      refine zrq (by intro i h; cases h) ?_
      exact ykq (n + 1) (⟨hn, fun j y hj hy => by rcases Nat.lt_succ_iff_lt_or_eq.1 hj with q | rfl; exact g2 j y q hy; have := Option.some.inj (hx.symm.trans hy); subst this; exact h2⟩) (by omega) ⟨rfl, trivial⟩ ⟨rfl, rfl, rfl, rfl, trivial⟩ (by repeat (first | exact trivial | refine ⟨by first | rfl | exact zwq (by first | rfl | (simp; done)), ?_⟩)) (by omega) (by repeat (first | exact zOq | refine zRq (by omega) ?_ | refine zPq (by omega) ?_ | refine zQq (by omega) ?_)) rfl
    · have hno : ∀ y, rs[n]? = some y → ypq y.1 k = false := fun y hy => by
        have := Option.some.inj (hx.symm.trans hy); subst this; simpa using h2
      refine ytq ?_
      refine zlq (by intro h; cases h) ?_
      refine yhq (by intro h; cases h) ?_
      refine qoq (zfq (zcq (zbq (zaq rfl rfl (zdq ?_)))))
      refine zfq (zcq (zbq ?_))
      refine uMq (fun _ => ent_up (fr2 := [(2, .fz (zBq v) 1 g), (4, .ptr 0 0), (7, psW rs), (8, .int .i64 (n : Int)), (9, gW 1 33 [])]) ⟨rfl, rfl, rfl, rfl, rfl, trivial⟩) ?_; refine zaq rfl rfl ?_
      refine zaq rfl rfl (zaq rfl rfl (zaq rfl (uUq (ys := (rs.take n).map pW) (l := 0) (h := n) rfl rfl rfl rfl rfl rfl rfl (Nat.zero_le _) (by rw [e]; exact g1) (by rw [List.drop_zero, List.map_take]; rfl) rfl) ?_))
      refine Ytq (b := 1) (xs := []) (news := (rs.take n).map pW) (k := ti88) (H0 := [(0, 26, dW k)]) [_] [(2, .fz (zBq v) 1 g), (4, .ptr 0 0), (7, psW rs), (8, .int .i64 (n : Int))] rfl rfl rfl rfl rfl rfl rfl rfl rfl rfl rfl (by show (0 + ((rs.take n).map pW).length) * 56 ≤ _; omega) (by show 0 + ((rs.take n).map pW).length ≤ _; omega) rfl (by simp) (by omega) (by omega) ⟨rfl, rfl, rfl, rfl, trivial⟩ rfl ⟨zwq (by simp), rfl, zwq (by simp), rfl, trivial⟩ (by simp) ⟨⟨by omega, rfl, zwq (by simp)⟩, trivial⟩ (by simp) ?_
      refine zaq rfl rfl (zdq ?_)
      refine zfq (zcq (zZq (zhq rfl rfl (zDq rfl rfl ?_))))
      refine zhq rfl rfl ?_
      refine qUq rfl rfl rfl rfl rfl rfl (vmq _ _ (by first | assumption | omega)) ?_
      refine zhq rfl rfl (zDq rfl rfl ?_)
      refine jiq rfl (jBq rfl rfl (Z2q [_, _] (k := ti88) (news := [pW (k, v)]) rfl rfl rfl rfl rfl (jRq rfl rfl rfl rfl) (by simp) (by show (((rs.take n).map pW).length + 1) * 56 ≤ _; omega) (by show ((rs.take n).map pW).length + 1 ≤ _; omega) rfl (by simp))) (evs_G (by first | rfl | kernel_rfl) (by first | rfl | kernel_rfl)) ?_
      refine zhq rfl rfl (z6q ?_)
      refine zfq (zcq (zbq ?_))
      refine uMq (fun _ => jbq (b := 1) (H0 := [(0, 26, dW k)]) (fr2 := [(4, .ptr 0 0), (7, psW rs), (8, .int .i64 (n : Int))]) 3 9 (by omega) (by omega) (by omega) (by simp) rfl rfl ⟨rfl, rfl, rfl, trivial⟩ ⟨rfl, zwq (by simp), rfl, trivial⟩ rfl (by simp) ⟨⟨by omega, rfl, zwq (by simp)⟩, trivial⟩ (by simp)) ?_; refine zaq rfl rfl ?_
      refine zaq rfl rfl (zaq rfl rfl (zaq rfl (uUq (ys := (rs.drop n).map pW) (l := n) (h := (rs.map pW).length) rfl rfl rfl rfl rfl rfl rfl (by rw [e]; exact g1) (Nat.le_refl _) (by rw [List.take_of_length_le (by simp), List.map_drop]) rfl) ?_))
      refine Ytq (b := 1) (news := (rs.drop n).map pW) (k := ti88) (H0 := [(0, 26, dW k)]) [_] [] rfl rfl rfl rfl rfl rfl rfl rfl rfl rfl rfl (by show (((rs.take n).map pW ++ [pW (k, v)]).length + ((rs.drop n).map pW).length) * 56 ≤ _; simp; omega) (by show ((rs.take n).map pW ++ [pW (k, v)]).length + ((rs.drop n).map pW).length ≤ _; simp; omega) rfl (by simp) (by omega) (by omega) trivial rfl trivial (by simp) ⟨⟨by omega, rfl, zwq (by simp)⟩, trivial⟩ (by simp) ?_
      refine zaq rfl rfl (zdq ?_)
      refine zfq (zjq ?_)
      refine xyq (by first | exact .inr rfl | exact .inl rfl) rfl ?_
      rw [rest (by assumption)]
      have := Zwq (b := 1) (e := 33) (ty := 88) (l := (rs.take n).map pW ++ [pW (k, v)] ++ (rs.drop n).map pW) (H0 := [(0, 26, dW k)]) (by decide) (by simp) (by simp)
      unfold psW
      rw [show (rs.take n ++ (k, v) :: rs.drop n).map pW = (rs.take n).map pW ++ [pW (k, v)] ++ (rs.drop n).map pW by simp]
      exact this
  · have hno : ∀ y, rs[n]? = some y → ypq y.1 k = false := fun y hy => by
      have := (List.getElem?_eq_some_iff.1 hy).1; omega
    refine zhq rfl rfl (zLq rfl (zLq rfl (zLq rfl (zLq rfl (zLq rfl (zLq rfl (zLq rfl (zhq rfl rfl (z6q ?_)))))))))
    refine zfq (zAq rfl (ytq ?_))
    refine zlq (by intro h; cases h) ?_
    refine yhq (by intro h; cases h) ?_
    refine qoq (zfq (zcq (zbq (zaq rfl rfl (zdq ?_)))))
    refine zfq (zcq (zbq ?_))
    refine uMq (fun _ => ent_up (fr2 := [(2, .fz (zBq v) 1 g), (4, .ptr 0 0), (7, psW rs), (8, .int .i64 (n : Int)), (9, gW 1 33 [])]) ⟨rfl, rfl, rfl, rfl, rfl, trivial⟩) ?_; refine zaq rfl rfl ?_
    refine zaq rfl rfl (zaq rfl rfl (zaq rfl (uUq (ys := (rs.take n).map pW) (l := 0) (h := n) rfl rfl rfl rfl rfl rfl rfl (Nat.zero_le _) (by rw [e]; exact g1) (by rw [List.drop_zero, List.map_take]; rfl) rfl) ?_))
    refine Ytq (b := 1) (xs := []) (news := (rs.take n).map pW) (k := ti88) (H0 := [(0, 26, dW k)]) [_] [(2, .fz (zBq v) 1 g), (4, .ptr 0 0), (7, psW rs), (8, .int .i64 (n : Int))] rfl rfl rfl rfl rfl rfl rfl rfl rfl rfl rfl (by show (0 + ((rs.take n).map pW).length) * 56 ≤ _; omega) (by show 0 + ((rs.take n).map pW).length ≤ _; omega) rfl (by simp) (by omega) (by omega) ⟨rfl, rfl, rfl, rfl, trivial⟩ rfl ⟨zwq (by simp), rfl, zwq (by simp), rfl, trivial⟩ (by simp) ⟨⟨by omega, rfl, zwq (by simp)⟩, trivial⟩ (by simp) ?_
    refine zaq rfl rfl (zdq ?_)
    refine zfq (zcq (zZq (zhq rfl rfl (zDq rfl rfl ?_))))
    refine zhq rfl rfl ?_
    refine qUq rfl rfl rfl rfl rfl rfl (vmq _ _ (by first | assumption | omega)) ?_
    refine zhq rfl rfl (zDq rfl rfl ?_)
    refine jiq rfl (jBq rfl rfl (Z2q [_, _] (k := ti88) (news := [pW (k, v)]) rfl rfl rfl rfl rfl (jRq rfl rfl rfl rfl) (by simp) (by show (((rs.take n).map pW).length + 1) * 56 ≤ _; omega) (by show ((rs.take n).map pW).length + 1 ≤ _; omega) rfl (by simp))) (evs_G (by first | rfl | kernel_rfl) (by first | rfl | kernel_rfl)) ?_
    refine zhq rfl rfl (z6q ?_)
    refine zfq (zcq (zbq ?_))
    refine uMq (fun _ => jbq (b := 1) (H0 := [(0, 26, dW k)]) (fr2 := [(4, .ptr 0 0), (7, psW rs), (8, .int .i64 (n : Int))]) 3 9 (by omega) (by omega) (by omega) (by simp) rfl rfl ⟨rfl, rfl, rfl, trivial⟩ ⟨rfl, zwq (by simp), rfl, trivial⟩ rfl (by simp) ⟨⟨by omega, rfl, zwq (by simp)⟩, trivial⟩ (by simp)) ?_; refine zaq rfl rfl ?_
    refine zaq rfl rfl (zaq rfl rfl (zaq rfl (uUq (ys := (rs.drop n).map pW) (l := n) (h := (rs.map pW).length) rfl rfl rfl rfl rfl rfl rfl (by rw [e]; exact g1) (Nat.le_refl _) (by rw [List.take_of_length_le (by simp), List.map_drop]) rfl) ?_))
    refine Ytq (b := 1) (news := (rs.drop n).map pW) (k := ti88) (H0 := [(0, 26, dW k)]) [_] [] rfl rfl rfl rfl rfl rfl rfl rfl rfl rfl rfl (by show (((rs.take n).map pW ++ [pW (k, v)]).length + ((rs.drop n).map pW).length) * 56 ≤ _; simp; omega) (by show ((rs.take n).map pW ++ [pW (k, v)]).length + ((rs.drop n).map pW).length ≤ _; simp; omega) rfl (by simp) (by omega) (by omega) trivial rfl trivial (by simp) ⟨⟨by omega, rfl, zwq (by simp)⟩, trivial⟩ (by simp) ?_
    refine zaq rfl rfl (zdq ?_)
    refine zfq (zjq ?_)
    refine xyq (by first | exact .inr rfl | exact .inl rfl) rfl ?_
    rw [rest (by assumption)]
    have := Zwq (b := 1) (e := 33) (ty := 88) (l := (rs.take n).map pW ++ [pW (k, v)] ++ (rs.drop n).map pW) (H0 := [(0, 26, dW k)]) (by decide) (by simp) (by simp)
    unfold psW
    rw [show (rs.take n ++ (k, v) :: rs.drop n).map pW = (rs.take n).map pW ++ [pW (k, v)] ++ (rs.drop n).map pW by simp]
    exact this
theorem withR_eq {l : List Pr} (h : Srt l) (k : Dig) (v : List UInt8) : withR l k v = kAq l k v := by
  have key : ∀ {l : List Pr}, Srt l → (ycq l k).takeWhile (fun p => ypq p.1 k) = l.filter (fun p => ypq p.1 k) ∧ (ycq l k).dropWhile (fun p => ypq p.1 k) = l.filter (fun p => ypq k p.1) := by
    intro l
    induction l with
    | nil => intro _; exact ⟨rfl, rfl⟩
    | cons x l ih =>
      intro h
      obtain ⟨h1, h2⟩ := List.pairwise_cons.1 h
      obtain ⟨q1, q2⟩ := ih h2
      by_cases e : x.1 = k
      · have e1 : ypq x.1 k = false := by rw [e]; exact j1q k
        have e2 : ypq k x.1 = false := by rw [e]; exact j1q k
        have hno : ∀ y ∈ l, ypq y.1 k = false := fun y hy => qEq (by rw [← e]; exact h1 y hy)
        have ew : ycq (x :: l) k = ycq l k := by simp [ycq, e]
        rw [ew, q1, q2]
        simp [e1, e2]
      · have ew : ycq (x :: l) k = x :: ycq l k := by simp [ycq, e]
        rw [ew]
        cases ha : ypq x.1 k with
        | true =>
          have hb := qEq ha
          simp [ha, hb, q1, q2]
        | false =>
          have hb : ypq k x.1 = true := (Zgq e).resolve_left (by rw [ha]; exact Bool.false_ne_true)
          have hno : ∀ y ∈ l, ypq y.1 k = false := fun y hy => qEq (xDq hb (h1 y hy))
          have hyes : ∀ y ∈ l, ypq k y.1 = true := fun y hy => xDq hb (h1 y hy)
          have hw : ycq l k = l := jjq fun p hp q => by
            have := hyes p hp
            rw [q, j1q] at this; cases this
          simp only [List.takeWhile_cons, List.dropWhile_cons, List.filter_cons, ha, hb, hw, if_true, if_false]
          refine ⟨(vQq fun y hy => hno y hy).symm, ?_⟩
          simp only [Bool.false_eq_true, if_false]
          rw [YGq fun y hy => hyes y hy]
  obtain ⟨q1, q2⟩ := key h
  unfold withR kAq
  rw [q1, q2]
theorem rpsame_s (a b : List Pr) (f g : Bool) (hb : a.length ≤ 1000000000) : PS cfg G 20 [.fz (a.map pW) 33 f, .fz (b.map pW) 33 g] (.bool (decide (a = b))) := by
  have ea : (a.map pW).length = a.length := List.length_map _
  have eb : (b.map pW).length = b.length := List.length_map _
  refine ynq (fn := Try.f20) rfl rfl rfl (Nat.le_of_ble_eq_true rfl) (fun R k0 => ?_)
  refine zcq (zbq (zaq rfl rfl (zdq ?_)))
  refine zfq (zcq (zcq (zbq (zaq rfl rfl (zNq (w' := .int .i64 (a.length : Int)) rfl rfl (by rw [← ea]; rfl) ?_)))))
  refine zaq rfl rfl (zNq (w' := .int .i64 (b.length : Int)) rfl rfl (by rw [← eb]; rfl) ?_)
  refine zCq rfl rfl ?_
  refine zdq ?_
  refine zfq ?_
  refine zEq rfl (fun h1 => ?_) (fun h1 => ?_)
  · refine zcq (zbq (zaq rfl rfl (zdq ?_)))
    refine zfq (zjq ?_)
    refine zlq (by intro h; cases h) ?_
    refine znq (.inr rfl) rfl ?_
    rw [decide_eq_false]
    rintro rfl
    exact h1 rfl
  · have hl : a.length = b.length := by omega
    refine ziq (zfq (zcq (zcq (zbq (zaq rfl rfl (zdq ?_))))))
    refine zfq (zmq ?_)
    refine ySq (α := Nat) (fun i => i ≤ a.length ∧ a.take i = b.take i) (fun i => [(5, .int .i64 (i : Int))]) [(0, _), (1, _), (4, _)] (fun i => a.length - i) (0) ⟨rfl, rfl, rfl, trivial⟩ (⟨Nat.zero_le _, rfl⟩) ⟨rfl, trivial⟩ (fun i hI => ?_)
    obtain ⟨g1, g2⟩ := hI
    refine zcq (zcq (zbq (zaq rfl rfl (zaq rfl rfl (zNq (w' := .int .i64 (a.length : Int)) rfl rfl (by rw [← ea]; rfl) ?_)))))
    refine zCq rfl rfl ?_
    refine zdq ?_
    refine zfq ?_
    refine zEq rfl (fun h2 => ?_) (fun h2 => ?_)
    · have hi : i < a.length := by omega
      obtain ⟨x, hx⟩ : ∃ x, a[i]? = some x := ⟨_, List.getElem?_eq_getElem hi⟩
      obtain ⟨y, hy⟩ : ∃ y, b[i]? = some y := ⟨_, List.getElem?_eq_getElem (by omega)⟩
      have no : x ≠ y → decide (a = b) = false := fun h => decide_eq_false fun q => h (by subst q; exact Option.some.inj (hx.symm.trans hy))
      refine ziq (zfq (zcq (zmq (zcq (zZq (zhq rfl rfl (zhq rfl rfl (zhq rfl (z7q (i := i) rfl rfl rfl rfl rfl rfl rfl (yLq pW hx)) (zhq rfl rfl (zDq rfl rfl ?_))))))))))
      refine zhq rfl rfl (zhq rfl rfl (zhq rfl (z7q (i := i) rfl rfl rfl rfl rfl rfl rfl (yLq pW hy)) (zhq rfl rfl (zDq rfl rfl ?_))))
      refine fl_dec rfl (uBq rfl rfl rfl rfl (qOq rfl rfl rfl rfl rfl rfl _ _ 250)) (uoq yPq) (fun h3 => ?_) (fun h3 => ?_)
      · refine zhq rfl rfl (zLq rfl (zLq rfl (zLq rfl (zLq rfl (zLq rfl (zLq rfl (zLq rfl (zLq rfl (zLq rfl (zLq rfl (zLq rfl (zLq rfl (zhq rfl rfl (z6q ?_))))))))))))))
        refine zfq (zMq rfl (zcq (zbq (zaq rfl rfl (zdq ?_)))))
        refine zfq (zjq ?_)
        refine zrq (by intro i h; cases h) ?_
        refine zlq (by intro h; cases h) ?_
        refine yhq (by intro h; cases h) ?_
        refine zrq (by intro i h; cases h) ?_
        refine zlq (by intro h; cases h) ?_
        exact znq (.inr rfl) rfl (by rw [no fun q => h3 (by rw [q])])
      · have hk : x.1 = y.1 := by simpa using h3
        refine zhq rfl rfl (zhq rfl rfl (zhq rfl rfl (zhq rfl (z7q (i := i) rfl rfl rfl rfl rfl rfl rfl (yLq pW hx)) (zhq rfl rfl (zDq rfl rfl ?_)))))
        refine zhq rfl rfl (zhq rfl rfl (zhq rfl (z7q (i := i) rfl rfl rfl rfl rfl rfl rfl (yLq pW hy)) (zhq rfl rfl (zDq rfl rfl ?_))))
        refine qUq rfl rfl rfl rfl rfl rfl (same_s _ _ _ _) ?_
        refine zhq rfl rfl (zhq rfl rfl (z6q ?_))
        refine zfq ?_
        refine zEq rfl (fun h4 => ?_) (fun h4 => ?_)
        · refine zcq (zbq (zaq rfl rfl (zdq ?_)))
          refine zfq (zjq ?_)
          refine zrq (by intro i h; cases h) ?_
          refine zlq (by intro h; cases h) ?_
          refine yhq (by intro h; cases h) ?_
          refine zrq (by intro i h; cases h) ?_
          refine zlq (by intro h; cases h) ?_
          exact znq (.inr rfl) rfl (by rw [no fun q => by rw [q] at h4; simp at h4])
        · have hv : x.2 = y.2 := by simpa using h4
          have hxy : x = y := Prod.ext hk hv
          refine ziq (zrq (by intro i h; cases h) ?_)
          refine zfq (zbq (zaq rfl rfl (zyq (i + 1) rfl rfl (by first | rfl | omega) ⟨by omega, by omega⟩ ?_)))
          refine zaq rfl rfl (zdq ?_)
          exact ykq (i + 1) (⟨hi, by rw [List.take_add_one, List.take_add_one, g2, hx, hy, hxy]⟩) (by omega) ⟨rfl, trivial⟩ ⟨rfl, rfl, rfl, trivial⟩ (by repeat (first | exact trivial | refine ⟨by first | rfl | exact zwq (by first | rfl | (simp; done)), ?_⟩)) (by omega) (by repeat (first | exact zOq | refine zRq (by omega) ?_ | refine zPq (by omega) ?_ | refine zQq (by omega) ?_)) rfl
    · refine ytq ?_
      refine zlq (by intro h; cases h) ?_
      refine yhq (by intro h; cases h) ?_
      refine qoq (zfq (zcq (zbq (zaq rfl rfl (zdq ?_)))))
      refine zfq (zjq ?_)
      refine znq (.inr rfl) rfl ?_
      rw [decide_eq_true]
      have := g2
      rw [List.take_of_length_le (by omega), List.take_of_length_le (by omega)] at this
      exact this
end Go.Proofs.Ytgeelfdgnehdnaa
namespace Go.Proofs.Ytgeelfdgnehdnaa
open Go.RowKit
set_option linter.unusedSimpArgs false
set_option linter.unusedVariables false
attribute [local irreducible] CoW OpW FlW Step Spec
variable {G : Nat → Option W}
theorem mayp_val (k : Dig) (v : List UInt8) : MayP [(k, v)] ↔ valB v = true := by
  constructor
  · intro h
    exact (h.2 0 (by simp) _ rfl).1
  · intro h
    refine ⟨by simp, fun i hi x hx => ?_⟩
    obtain rfl : i = 0 := by simpa using hi
    cases hx
    exact ⟨h, fun y h0 => by omega⟩
theorem rone_s (x : Node) (n : Nat) (hn : n ≤ 4611686018427387903) : PS cfg G 44 [nW x, .int .i64 (n : Int)] (.bool (decide (oneB x n))) := by
  have e := yoq x.val
  have yes : ∀ {b : Bool}, x.leaf = true → b = (valB x.val && decide (x.left = 0) && decide (x.right = 0)) → W.bool b = W.bool (decide (oneB x n)) := fun {b} h1 hb => by
    rw [hb]
    congr 1
    rw [Bool.eq_iff_iff]
    simp only [Bool.and_eq_true, decide_eq_true_eq, oneB, if_pos h1, mayp_val]
    exact ⟨fun ⟨⟨a, b⟩, c⟩ => ⟨b, c, a⟩, fun ⟨b, c, a⟩ => ⟨⟨a, b⟩, c⟩⟩
  have no : ¬ x.leaf = true → ¬ ((0 ≤ x.left ∧ x.left ≤ n) ∧ (0 ≤ x.right ∧ x.right ≤ n) ∧ 0 < x.left + x.right) → W.bool false = W.bool (decide (oneB x n)) := fun h1 h => by
    rw [decide_eq_false]
    rw [oneB, if_neg h1]
    exact fun q => h ⟨q.1, q.2.1, q.2.2.2.2⟩
  have fork : ∀ {b : Bool}, ¬ x.leaf = true → 0 ≤ x.left → x.left ≤ n → 0 ≤ x.right → x.right ≤ n → 0 < x.left + x.right → b = (decide (x.key = qSq) && decide (x.val = [])) → W.bool b = W.bool (decide (oneB x n)) := fun {b} h1 q1 q2 q3 q4 q5 hb => by
    rw [hb]
    congr 1
    rw [Bool.eq_iff_iff]
    simp only [Bool.and_eq_true, decide_eq_true_eq, oneB, if_neg h1]
    exact ⟨fun ⟨a, c⟩ => ⟨⟨q1, q2⟩, ⟨q3, q4⟩, a, c, q5⟩, fun h => ⟨h.2.2.1, h.2.2.2.1⟩⟩
  refine ynq (fn := Try.f44) rfl rfl rfl (Nat.le_of_ble_eq_true rfl) (fun R k0 => ?_)
  refine zcq (zbq (zeq rfl rfl (zaq rfl rfl (zdq ?_))))
  refine zfq (zcq (zcq (zbq (zaq rfl rfl (zeq rfl rfl (zdq ?_))))))
  refine zfq ?_
  refine zEq rfl (fun h1 => ?_) (fun h1 => ?_)
  · refine zcq (zbq (zaq rfl rfl (zeq rfl rfl (ztq rfl rfl rfl rfl rfl rfl (rvalue_s _ _) ?_))))
    refine k6q (fun h2 => ?_) (fun h2 => ?_)
    · refine zaq rfl rfl (zaq rfl rfl (zeq rfl rfl ?_))
      refine y3q rfl rfl (fun h3 => ?_) (fun h3 => ?_)
      · refine zaq rfl rfl (zaq rfl rfl (zaq rfl rfl (zeq rfl rfl (zCq rfl rfl ?_))))
        refine zaq rfl rfl (zaq rfl rfl (zdq ?_))
        refine zfq (zjq ?_)
        refine zlq (by intro h; cases h) ?_
        exact znq (.inr rfl) rfl (by first | exact yes (by assumption) (by simp_all) | exact no (by assumption) (by omega))
      · refine zaq rfl rfl (zaq rfl rfl (zgq rfl (zgq rfl (zgq rfl (zaq rfl rfl (zaq rfl rfl (zdq ?_)))))))
        refine zfq (zjq ?_)
        refine zlq (by intro h; cases h) ?_
        exact znq (.inr rfl) rfl (by first | exact yes (by assumption) (by simp_all) | exact no (by assumption) (by omega))
    · refine zaq rfl rfl (zgq rfl (zgq rfl (zgq rfl (zaq rfl rfl (zaq rfl rfl (zgq rfl (zgq rfl (zgq rfl (zaq rfl rfl (zaq rfl rfl (zdq ?_)))))))))))
      refine zfq (zjq ?_)
      refine zlq (by intro h; cases h) ?_
      exact znq (.inr rfl) rfl (by first | exact yes (by assumption) (by simp_all) | exact no (by assumption) (by omega))
  · refine ziq (zfq (zcq (zcq (zbq (zaq rfl rfl (zeq rfl rfl ?_))))))
    refine y3q rfl rfl (fun h2 => ?_) (fun h2 => ?_)
    · refine zaq rfl rfl (zgq rfl (zgq rfl (zgq rfl (zgq rfl (zaq rfl rfl (zaq rfl rfl (zgq rfl (zgq rfl (zgq rfl (zaq rfl rfl (zaq rfl rfl (zgq rfl (zgq rfl (zgq rfl (zgq rfl (zaq rfl rfl (zaq rfl rfl (zgq rfl (zgq rfl (zgq rfl (zgq rfl (zgq rfl (zgq rfl ?_)))))))))))))))))))))))
      refine zgq rfl (zgq rfl (zaq rfl rfl (zdq ?_)))
      refine zfq (zMq rfl (zcq (zbq (zaq rfl rfl (zdq ?_)))))
      refine zfq (zjq ?_)
      refine zlq (by intro h; cases h) ?_
      exact znq (.inr rfl) rfl (by first | exact yes (by assumption) (by simp_all) | exact no (by assumption) (by omega))
    · refine zaq rfl rfl (zaq rfl rfl (zeq rfl rfl (zaq rfl rfl ?_)))
      refine y3q rfl rfl (fun h3 => ?_) (fun h3 => ?_)
      · refine zaq rfl rfl (zaq rfl rfl (zgq rfl (zgq rfl (zgq rfl (zaq rfl rfl (zaq rfl rfl (zgq rfl (zgq rfl (zgq rfl (zgq rfl (zaq rfl rfl (zaq rfl rfl (zgq rfl (zgq rfl (zgq rfl (zgq rfl (zgq rfl (zgq rfl (zgq rfl (zgq rfl (zaq rfl rfl (zdq ?_))))))))))))))))))))))
        refine zfq (zMq rfl (zcq (zbq (zaq rfl rfl (zdq ?_)))))
        refine zfq (zjq ?_)
        refine zlq (by intro h; cases h) ?_
        exact znq (.inr rfl) rfl (by first | exact yes (by assumption) (by simp_all) | exact no (by assumption) (by omega))
      · refine zaq rfl rfl (zaq rfl rfl (zaq rfl rfl (zeq rfl rfl ?_)))
        refine y3q rfl rfl (fun h4 => ?_) (fun h4 => ?_)
        · refine zaq rfl rfl (zaq rfl rfl (zgq rfl (zgq rfl (zgq rfl (zgq rfl (zaq rfl rfl (zaq rfl rfl (zgq rfl (zgq rfl (zgq rfl (zgq rfl (zgq rfl (zgq rfl (zgq rfl (zgq rfl (zaq rfl rfl (zdq ?_)))))))))))))))))
          refine zfq (zMq rfl (zcq (zbq (zaq rfl rfl (zdq ?_)))))
          refine zfq (zjq ?_)
          refine zlq (by intro h; cases h) ?_
          exact znq (.inr rfl) rfl (by first | exact yes (by assumption) (by simp_all) | exact no (by assumption) (by omega))
        · refine zaq rfl rfl (zaq rfl rfl (zaq rfl rfl (zeq rfl rfl (zaq rfl rfl ?_))))
          refine y3q rfl rfl (fun h5 => ?_) (fun h5 => ?_)
          · refine zaq rfl rfl (zaq rfl rfl (zgq rfl (zgq rfl (zgq rfl (zgq rfl (zgq rfl (zgq rfl (zgq rfl (zgq rfl (zaq rfl rfl (zdq ?_)))))))))))
            refine zfq (zMq rfl (zcq (zbq (zaq rfl rfl (zdq ?_)))))
            refine zfq (zjq ?_)
            refine zlq (by intro h; cases h) ?_
            exact znq (.inr rfl) rfl (by first | exact yes (by assumption) (by simp_all) | exact no (by assumption) (by omega))
          · refine zaq rfl rfl (zaq rfl rfl (zaq rfl rfl (zeq rfl rfl ?_)))
            refine y3q rfl rfl (fun h6 => ?_) (fun h6 => ?_)
            · refine zaq rfl rfl (zaq rfl rfl (zeq rfl rfl (zCq rfl rfl ?_)))
              refine zaq rfl rfl (zaq rfl rfl (zdq ?_))
              refine zfq ?_
              refine zEq rfl (fun h7 => ?_) (fun h7 => ?_)
              · refine zcq (zbq (zaq rfl rfl (zdq ?_)))
                refine zfq (zjq ?_)
                refine zlq (by intro h; cases h) ?_
                exact znq (.inr rfl) rfl (by first | exact yes (by assumption) (by simp_all) | exact no (by assumption) (by omega))
              · have h2 : ¬ x.left < 0 := h2
                have h3 : ¬ (n : Int) < x.left := h3
                have h4 : ¬ x.right < 0 := h4
                have h5 : ¬ (n : Int) < x.right := h5
                refine ziq (zfq (zcq (zbq (zaq rfl rfl (zeq rfl rfl (zNq rfl rfl uxq ?_))))))
                refine op_dec rfl (qkq rfl rfl rfl rfl (qOq rfl rfl rfl rfl rfl rfl _ _ 250)) yPq (fun h8 => ?_) (fun h8 => ?_)
                · refine zaq rfl rfl (zaq rfl rfl (zeq rfl rfl (zNq (w' := .int .i64 (x.val.length : Int)) rfl rfl (by rw [← e]; rfl) ?_)))
                  refine zCq rfl rfl ?_
                  refine zaq rfl rfl (zaq rfl rfl (zdq ?_))
                  refine zfq (zjq ?_)
                  refine znq (.inr rfl) rfl (fork h1 (by omega) (by omega) (by omega) (by omega) (by omega) ?_)
                  rw [decide_eq_true (by assumption : x.key = qSq), Bool.true_and]
                  refine decide_eq_decide.2 ⟨fun q => List.eq_nil_of_length_eq_zero (by omega), fun q => by rw [q]; rfl⟩
                · refine zaq rfl rfl (zgq rfl (zgq rfl (zgq rfl (zgq rfl (zaq rfl rfl (zaq rfl rfl (zdq ?_)))))))
                  refine zfq (zjq ?_)
                  refine znq (.inr rfl) rfl (fork h1 (by omega) (by omega) (by omega) (by omega) (by omega) ?_)
                  rw [decide_eq_false (by assumption : ¬ x.key = qSq), Bool.false_and]
            · have h2 : ¬ x.left < 0 := h2
              have h3 : ¬ (n : Int) < x.left := h3
              have h4 : ¬ x.right < 0 := h4
              have h5 : ¬ (n : Int) < x.right := h5
              refine zaq rfl rfl (zgq rfl (zgq rfl (zgq rfl (zaq rfl rfl (zaq rfl rfl (zdq ?_))))))
              refine zfq (zAq rfl (ziq (zfq (zcq (zbq (zaq rfl rfl (zeq rfl rfl (zNq rfl rfl uxq ?_))))))))
              refine op_dec rfl (qkq rfl rfl rfl rfl (qOq rfl rfl rfl rfl rfl rfl _ _ 250)) yPq (fun h7 => ?_) (fun h7 => ?_)
              · refine zaq rfl rfl (zaq rfl rfl (zeq rfl rfl (zNq (w' := .int .i64 (x.val.length : Int)) rfl rfl (by rw [← e]; rfl) ?_)))
                refine zCq rfl rfl ?_
                refine zaq rfl rfl (zaq rfl rfl (zdq ?_))
                refine zfq (zjq ?_)
                refine znq (.inr rfl) rfl (fork h1 (by omega) (by omega) (by omega) (by omega) (by omega) ?_)
                rw [decide_eq_true (by assumption : x.key = qSq), Bool.true_and]
                refine decide_eq_decide.2 ⟨fun q => List.eq_nil_of_length_eq_zero (by omega), fun q => by rw [q]; rfl⟩
              · refine zaq rfl rfl (zgq rfl (zgq rfl (zgq rfl (zgq rfl (zaq rfl rfl (zaq rfl rfl (zdq ?_)))))))
                refine zfq (zjq ?_)
                refine znq (.inr rfl) rfl (fork h1 (by omega) (by omega) (by omega) (by omega) (by omega) ?_)
                rw [decide_eq_false (by assumption : ¬ x.key = qSq), Bool.false_and]
def cntR (t : T) (d : Nat) (b : Dig) : Int := if t.ok d b = true then (match t with | .nil => 0 | .leaf _ _ => 1 | .fork _ _ => 2) else -1
theorem cntR_lt (t : T) (d : Nat) (b : Dig) : cntR t d b < 0 ↔ ¬ t.ok d b = true := by
  unfold cntR
  split
  · rename_i h
    cases t <;> simp [h]
  · rename_i h; simp [h]
theorem cntR_ge (t : T) (d : Nat) (b : Dig) : 0 ≤ cntR t d b ↔ t.ok d b = true := by
  have := cntR_lt t d b
  constructor
  · intro h
    refine Classical.byContradiction fun q => ?_
    have := this.2 q
    omega
  · intro h
    refine Int.not_lt.1 fun q => this.1 q h
theorem cntR_fork {l r : T} {d : Nat} {b : Dig} (hd : d < 256) (h1 : ¬ cntR l (d + 1) b < 0) (h2 : ¬ cntR r (d + 1) (qdq b d) < 0) : cntR (.fork l r) d b = if cntR l (d + 1) b + cntR r (d + 1) (qdq b d) < 2 then -1 else 2 := by
  have e1 : l.ok (d + 1) b = true := (cntR_ge l _ _).1 (by omega)
  have e2 : r.ok (d + 1) (qdq b d) = true := (cntR_ge r _ _).1 (by omega)
  have e : (T.fork l r).ok d b = T.two l r := by simp only [T.ok]; rw [decide_eq_true hd, e1, e2]; rfl
  unfold cntR
  rw [e, e1, e2]
  cases l <;> cases r <;> simp [T.two, T.isFork, T.non]
theorem cntR_le (t : T) (d : Nat) (b : Dig) : cntR t d b ≤ 2 := by
  unfold cntR
  split
  · cases t <;> simp
  · omega
theorem cntR_no {l r : T} {d : Nat} {b : Dig} (h : ¬ (T.fork l r).ok d b = true) : cntR (.fork l r) d b = -1 := by unfold cntR; rw [if_neg h]
theorem rright_s (t0 : Tree) (hb : t0.nodes.length ≤ 4611686018427387903) : ∀ (t : T) (n d : Nat) (b : Dig), Rep t0.nodes n t → d ≤ 256 → PS cfg G 45 [tW t0, .int .i64 (n : Int), .int .i64 (d : Int), dW b] (.int .i64 (cntR t d b)) := by
  intro t
  induction t with
  | nil =>
    intro n d b hr hd
    obtain rfl : n = 0 := by cases hr; rfl
    refine ynq (fn := Try.f45) rfl rfl rfl (Nat.le_of_ble_eq_true rfl) (fun R k0 => ?_)
    refine zcq (zbq (zeq rfl rfl (zeq rfl rfl (zaq rfl rfl (zdq ?_)))))
    refine zfq (zcq (zcq (zbq (zaq rfl rfl (zCq rfl rfl ?_)))))
    refine zdq ?_
    refine zfq ?_
    refine zEq rfl (fun h1 => ?_) (fun h1 => ?_)
    · refine zcq (zbq (zaq rfl rfl (zdq ?_)))
      refine zfq (zjq ?_)
      refine zlq (by intro h; cases h) ?_
      exact znq (.inr rfl) rfl rfl
    · exfalso; omega
  | leaf k v =>
    intro n d b hr hd
    have hle := hr.le
    cases hr with
    | leaf h =>
    rename_i n l r
    refine ynq (fn := Try.f45) rfl rfl rfl (Nat.le_of_ble_eq_true rfl) (fun R k0 => ?_)
    refine zcq (zbq (zeq rfl rfl (zeq rfl rfl (zaq rfl rfl (zdq ?_)))))
    refine zfq (zcq (zcq (zbq (zaq rfl rfl (zCq rfl rfl ?_)))))
    refine zdq ?_
    refine zfq ?_
    refine zEq rfl (fun h1 => ?_) (fun h1 => ?_)
    · exfalso; omega
    · refine ziq (zfq (zcq (zbq (zaq rfl rfl (zeq rfl rfl (zaq rfl rfl (zyq (n) rfl rfl (by first | rfl | omega) ⟨by omega, by omega⟩ ?_)))))))
      refine zaq rfl (z7q (i := n) rfl rfl rfl rfl rfl rfl rfl (yLq nW h)) (zeq rfl rfl (zeq rfl rfl (zeq rfl rfl (zdq ?_))))
      refine zfq (zcq (zcq (zbq (zaq rfl rfl (zeq rfl rfl (zdq ?_))))))
      refine zfq (zMq rfl (zcq (zcq (zbq (zaq rfl rfl (zeq rfl rfl (zeq rfl rfl (ztq rfl rfl rfl rfl rfl rfl (rshared_s _ _) ?_))))))))
      refine zaq rfl rfl (zCq rfl rfl ?_)
      refine zdq ?_
      refine zfq ?_
      refine zEq rfl (fun h2 => ?_) (fun h2 => ?_)
      · refine zcq (zbq (zaq rfl rfl (zdq ?_)))
        refine zfq (zjq ?_)
        refine zlq (by intro h; cases h) ?_
        refine zlq (by intro h; cases h) ?_
        refine znq (.inr rfl) rfl ?_
        unfold cntR
        rw [if_neg]
        simp only [T.ok, decide_eq_true_eq]
        have h2 : ((ydq k b : Nat) : Int) < d := h2
        omega
      · refine ziq (zfq (zcq (zbq (zaq rfl rfl (zdq ?_)))))
        refine zfq (zjq ?_)
        refine zlq (by intro h; cases h) ?_
        refine znq (.inr rfl) rfl ?_
        unfold cntR
        rw [if_pos]
        simp only [T.ok, decide_eq_true_eq]
        have h2 : ¬ ((ydq k b : Nat) : Int) < d := h2
        omega
  | fork tl tr ihL ihR =>
    intro n d b hr hd
    have hle := hr.le
    cases hr with
    | fork h hl hr hL hR =>
    rename_i n l r k v
    refine ynq (fn := Try.f45) rfl rfl rfl (Nat.le_of_ble_eq_true rfl) (fun R k0 => ?_)
    refine zcq (zbq (zeq rfl rfl (zeq rfl rfl (zaq rfl rfl (zdq ?_)))))
    refine zfq (zcq (zcq (zbq (zaq rfl rfl (zCq rfl rfl ?_)))))
    refine zdq ?_
    refine zfq ?_
    refine zEq rfl (fun h1 => ?_) (fun h1 => ?_)
    · exfalso; omega
    · refine ziq (zfq (zcq (zbq (zaq rfl rfl (zeq rfl rfl (zaq rfl rfl (zyq (n) rfl rfl (by first | rfl | omega) ⟨by omega, by omega⟩ ?_)))))))
      refine zaq rfl (z7q (i := n) rfl rfl rfl rfl rfl rfl rfl (yLq nW h)) (zeq rfl rfl (zeq rfl rfl (zeq rfl rfl (zdq ?_))))
      refine zfq (zcq (zcq (zbq (zaq rfl rfl (zeq rfl rfl (zdq ?_))))))
      refine zfq (zAq rfl (ziq (zfq (zcq (zcq (zbq (zaq rfl rfl (zCq rfl rfl ?_))))))))
      refine zdq ?_
      refine zfq ?_
      refine zEq rfl (fun h2 => ?_) (fun h2 => ?_)
      · refine zcq (zbq (zaq rfl rfl (zdq ?_)))
        refine zfq (zjq ?_)
        refine zlq (by intro h; cases h) ?_
        refine znq (.inr rfl) rfl ?_
        rw [cntR_no fun q => by have := (ok_fork.1 q).1; omega]
      · have hd' : d < 256 := by omega
        refine ziq (zfq (zcq (zbq (zeq rfl rfl (zaq rfl rfl (ztq rfl rfl rfl rfl rfl rfl (rturn_in _ _ (by omega)) ?_))))))
        refine zaq rfl rfl (zaq rfl rfl (zaq rfl rfl (zeq rfl rfl (zeq rfl rfl (zaq rfl rfl (zdq ?_))))))
        refine zfq (zcq (zbq (zeq rfl rfl (zaq rfl rfl (zeq rfl rfl (zaq rfl rfl (zyq (d + 1) rfl rfl (by first | rfl | omega) ⟨by omega, by omega⟩ ?_)))))))
        refine zeq rfl rfl (ztq rfl rfl rfl rfl rfl rfl (ihL l (d + 1) b hL (by omega)) ?_)
        refine zaq rfl rfl (zdq ?_)
        refine zfq (zcq (zcq (zbq (zaq rfl rfl (zCq rfl rfl ?_)))))
        refine zdq ?_
        refine zfq ?_
        refine zEq rfl (fun h3 => ?_) (fun h3 => ?_)
        · refine zcq (zbq (zaq rfl rfl (zdq ?_)))
          refine zfq (zjq ?_)
          refine zlq (by intro h; cases h) ?_
          refine znq (.inr rfl) rfl ?_
          rw [cntR_no fun q => (cntR_lt tl _ _).1 (by assumption) (ok_fork.1 q).2.1]
        · refine ziq (zfq (zcq (zbq (zeq rfl rfl (zaq rfl rfl (zeq rfl rfl (zaq rfl rfl (zyq (d + 1) rfl rfl (by first | rfl | omega) ⟨by omega, by omega⟩ ?_))))))))
          refine zeq rfl rfl (ztq rfl rfl rfl rfl rfl rfl (ihR r (d + 1) (qdq b d) hR (by omega)) ?_)
          refine zaq rfl rfl (zdq ?_)
          refine zfq (zcq (zcq (zbq (zaq rfl rfl ?_))))
          refine y3q rfl rfl (fun h4 => ?_) (fun h4 => ?_)
          · refine zaq rfl rfl (zgq rfl (zgq rfl (zgq rfl (zgq rfl (zaq rfl rfl (zdq ?_))))))
            refine zfq (zMq rfl (zcq (zbq (zaq rfl rfl (zdq ?_)))))
            refine zfq (zjq ?_)
            refine zlq (by intro h; cases h) ?_
            refine znq (.inr rfl) rfl ?_
            rw [cntR_no fun q => (cntR_lt tr _ _).1 (by assumption) (ok_fork.1 q).2.2.1]
          · have hc := cntR_fork (l := tl) (r := tr) hd' h3 h4
            have b1 := cntR_le tl (d + 1) b
            have b2 := cntR_le tr (d + 1) (qdq b d)
            refine zaq rfl rfl (zaq rfl rfl (zaq rfl rfl ?_))
            first | refine unq rfl rfl ⟨by omega, by omega⟩ ?_ | refine zaq rfl rfl ?_
            refine zCq rfl rfl ?_
            refine zaq rfl rfl (zdq ?_)
            refine zfq ?_
            refine zEq rfl (fun h5 => ?_) (fun h5 => ?_)
            · refine zcq (zbq (zaq rfl rfl (zdq ?_)))
              refine zfq (zjq ?_)
              refine zlq (by intro h; cases h) ?_
              exact znq (.inr rfl) rfl (by rw [hc, if_pos (by assumption)])
            · refine ziq (zfq (zcq (zbq (zaq rfl rfl (zdq ?_)))))
              refine zfq (zjq ?_)
              exact znq (.inr rfl) rfl (by rw [hc, if_neg (by assumption)])
theorem rmay_s (t : Tree) (hb : t.nodes.length ≤ 4611686018427387903) : PS cfg G 19 [tW t] (.bool (decide (MayT t))) := by
  have e : (t.nodes.map nW).length = t.nodes.length := List.length_map _
  refine ynq (fn := Try.f19) rfl rfl rfl (Nat.le_of_ble_eq_true rfl) (fun R k0 => ?_)
  refine zcq (zbq (zeq rfl rfl (zaq rfl rfl (zdq ?_))))
  refine zfq (zcq (zcq (zbq (zaq rfl rfl (zeq rfl rfl (zNq (w' := .int .i64 (t.nodes.length : Int)) rfl rfl (by rw [← e]; rfl) ?_))))))
  refine y3q rfl rfl (fun h1 => ?_) (fun h1 => ?_)
  · have hno : ¬ MayT t := fun h => by have := h.1; omega
    refine zaq rfl rfl (zgq rfl (zgq rfl (zgq rfl (zaq rfl rfl (zaq rfl rfl (zgq rfl (zgq rfl (zgq rfl (zgq rfl (zgq rfl (zgq rfl (zaq rfl rfl (zdq ?_)))))))))))))
    refine zfq (zMq rfl (zcq (zbq (zaq rfl rfl (zdq ?_)))))
    refine zfq (zjq ?_)
    refine zlq (by intro h; cases h) ?_
    exact znq (.inr rfl) rfl (by rw [decide_eq_false hno])
  refine zaq rfl rfl (zaq rfl rfl (zeq rfl rfl ?_))
  refine y3q rfl rfl (fun h2 => ?_) (fun h2 => ?_)
  · have hno : ¬ MayT t := fun h => by obtain ⟨_, _, n, _, h, _⟩ := h; have h2 : t.root < 0 := h2; omega
    refine zaq rfl rfl (zaq rfl rfl (zgq rfl (zgq rfl (zgq rfl (zgq rfl (zgq rfl (zgq rfl (zaq rfl rfl (zdq ?_)))))))))
    refine zfq (zMq rfl (zcq (zbq (zaq rfl rfl (zdq ?_)))))
    refine zfq (zjq ?_)
    refine zlq (by intro h; cases h) ?_
    exact znq (.inr rfl) rfl (by rw [decide_eq_false hno])
  refine zaq rfl rfl (zaq rfl rfl (zaq rfl rfl (zeq rfl rfl (zaq rfl rfl (zeq rfl rfl (zNq (w' := .int .i64 (t.nodes.length : Int)) rfl rfl (by rw [← e]; rfl) ?_))))))
  refine zCq rfl rfl ?_
  refine zaq rfl rfl (zdq ?_)
  refine zfq ?_
  refine zEq rfl (fun h3 => ?_) (fun h3 => ?_)
  · have hno : ¬ MayT t := fun h => by obtain ⟨_, _, n, _, h, hr, _⟩ := h; have h3 : (t.nodes.length : Int) < t.root := h3; have := hr.le; omega
    refine zcq (zbq (zaq rfl rfl (zdq ?_)))
    refine zfq (zjq ?_)
    refine zlq (by intro h; cases h) ?_
    exact znq (.inr rfl) rfl (by rw [decide_eq_false hno])
  have h2 : ¬ t.root < 0 := h2
  have h3 : ¬ (t.nodes.length : Int) < t.root := h3
  obtain ⟨n0, hn0⟩ := Int.eq_ofNat_of_zero_le (show 0 ≤ t.root by omega)
  refine ziq (zfq (zcq (zcq (zbq (zaq rfl rfl (zdq ?_))))))
  refine zfq (zmq ?_)
  refine ySq (α := Nat) (fun i => i ≤ t.nodes.length ∧ ∀ j x, j < i → t.nodes[j]? = some x → oneB x j) (fun i => [(3, .int .i64 (i : Int))]) [(1, _), (2, _)] (fun i => t.nodes.length - i) (0) ⟨rfl, rfl, trivial⟩ (⟨Nat.zero_le _, fun j x hj => by omega⟩) ⟨rfl, trivial⟩ (fun i hI => ?_)
  obtain ⟨hi, hI⟩ := hI
  refine zcq (zcq (zbq (zaq rfl rfl (zaq rfl rfl (zeq rfl rfl (zNq (w' := .int .i64 (t.nodes.length : Int)) rfl rfl (by rw [← e]; rfl) ?_))))))
  refine zCq rfl rfl ?_
  refine zdq ?_
  refine zfq ?_
  refine zEq rfl (fun h4 => ?_) (fun h4 => ?_)
  · have hi' : i < t.nodes.length := by omega
    obtain ⟨x, hx⟩ : ∃ x, t.nodes[i]? = some x := ⟨_, List.getElem?_eq_getElem hi'⟩
    refine ziq (zfq (zcq (zmq (zcq (zbq (zaq rfl rfl (zeq rfl rfl (zaq rfl rfl (zaq rfl (z7q (i := i) rfl rfl rfl rfl rfl rfl rfl (yLq nW hx)) (zeq rfl rfl (zaq rfl rfl (ztq rfl rfl rfl rfl rfl rfl (rone_s _ _ (by omega)) ?_))))))))))))
    refine zaq rfl rfl (zdq ?_)
    refine zfq ?_
    refine zEq rfl (fun h5 => ?_) (fun h5 => ?_)
    · have hno : ¬ MayT t := fun h => by have := h.2.1 i x hx; simp [this] at h5
      refine zcq (zbq (zaq rfl rfl (zdq ?_)))
      refine zfq (zjq ?_)
      refine zrq (by intro i h; cases h) ?_
      refine zlq (by intro h; cases h) ?_
      refine yhq (by intro h; cases h) ?_
      refine zrq (by intro i h; cases h) ?_
      refine zlq (by intro h; cases h) ?_
      exact znq (.inr rfl) rfl (by rw [decide_eq_false hno])
    · have h5 : oneB x i := by simpa using h5
      refine ziq (zrq (by intro i h; cases h) ?_)
      refine zfq (zbq (zaq rfl rfl (zyq (i + 1) rfl rfl (by first | rfl | omega) ⟨by omega, by omega⟩ ?_)))
      refine zaq rfl rfl (zdq ?_)
      exact ykq (i + 1) (⟨hi', fun j y hj hy => by rcases Nat.lt_succ_iff_lt_or_eq.1 hj with h | rfl; exact hI j y h hy; exact (Option.some.inj (hx.symm.trans hy)) ▸ h5⟩) (by omega) ⟨rfl, trivial⟩ ⟨rfl, rfl, trivial⟩ (by repeat (first | exact trivial | refine ⟨by first | rfl | exact zwq (by first | rfl | (simp; done)), ?_⟩)) (by omega) (by repeat (first | exact zOq | refine zRq (by omega) ?_ | refine zPq (by omega) ?_ | refine zQq (by omega) ?_)) rfl
  · have okn : okN t.nodes := fun j x hx => hI j x (by have := (List.getElem?_eq_some_iff.1 hx).1; omega) hx
    obtain ⟨t0, ht0⟩ := rep_of okn n0 (by omega)
    have key : MayT t ↔ t0.ok 0 qSq = true := by
      constructor
      · rintro ⟨_, _, n, t1, hn, hr, hk⟩
        obtain rfl : n = n0 := by omega
        rw [ht0.uniq hr]; exact hk
      · exact fun h => ⟨by omega, okn, n0, t0, hn0, ht0, h⟩
    refine ytq ?_
    refine zlq (by intro h; cases h) ?_
    refine yhq (by intro h; cases h) ?_
    refine qoq (zfq (zcq (zbq (zeq rfl rfl (zaq rfl rfl (zeq rfl rfl (zNq rfl rfl uxq ?_)))))))
    refine op_ps rfl rfl rfl rfl rfl (by rw [hn0]; rfl) (rright_s t (by omega) t0 n0 0 qSq ht0 (by omega)) (by simp) (by simp) ?_
    refine zCq rfl rfl ?_
    refine zaq rfl rfl (zdq ?_)
    refine zfq (zjq ?_)
    refine znq (.inr rfl) rfl ?_
    rw [show decide (MayT t) = decide (0 ≤ cntR t0 0 qSq) from decide_eq_decide.2 (key.trans (cntR_ge t0 0 qSq).symm)]
theorem rfor_s (t0 : Tree) (hb : t0.nodes.length ≤ 4611686018427387903) : ∀ (t : T) (n : Nat), Rep t0.nodes n t → t.all.length ≤ 1000000 → (∀ p ∈ t.all, p.2.length ≤ 70368744177664) → PL cfg G 46 [tW t0, .int .i64 (n : Int)] 88 33 (t.all.map pW) := by
  intro t
  induction t with
  | nil =>
    intro n hr hl hv R
    obtain rfl : n = 0 := by cases hr; rfl
    refine yrq (fn := Try.f46) rfl rfl rfl (Nat.le_of_ble_eq_true rfl) (fun k0 => ?_)
    refine zcq (zbq (zeq rfl rfl (zaq rfl rfl (zdq ?_))))
    refine zfq (zcq (zcq (zbq (zaq rfl rfl (zCq rfl rfl ?_)))))
    refine zdq ?_
    refine zfq ?_
    refine zEq rfl (fun h1 => ?_) (fun h1 => ?_)
    · refine zcq (zbq (zaq rfl rfl (zdq ?_)))
      refine zfq (zjq ?_)
      refine zlq (by intro h; cases h) ?_
      exact fin (w := gW 0 33 []) (.inr rfl) (vcq (b := 0) (ty := 88) (l2 := []) (H0 := []) (fr2 := []) 4 (by omega) (by omega) rfl trivial trivial (fun x r h => by cases h) rfl trivial List.nodup_nil) rfl ⟨rfl, rfl, rfl, rfl⟩
    · exfalso; omega
  | leaf k v =>
    intro n hr hl hv R
    have hle := hr.le
    have hvl := hv (k, v) (by simp [T.all])
    simp only at hvl
    cases hr with
    | leaf h =>
    rename_i n l r
    refine yrq (fn := Try.f46) rfl rfl rfl (Nat.le_of_ble_eq_true rfl) (fun k0 => ?_)
    refine zcq (zbq (zeq rfl rfl (zaq rfl rfl (zdq ?_))))
    refine zfq (zcq (zcq (zbq (zaq rfl rfl (zCq rfl rfl ?_)))))
    refine zdq ?_
    refine zfq ?_
    refine zEq rfl (fun h1 => ?_) (fun h1 => ?_)
    · exfalso; omega
    · refine ziq (zfq (zcq (zbq (zaq rfl rfl (zeq rfl rfl (zaq rfl rfl (zyq (n) rfl rfl (by first | rfl | omega) ⟨by omega, by omega⟩ ?_)))))))
      refine zaq rfl (z7q (i := n) rfl rfl rfl rfl rfl rfl rfl (yLq nW h)) (zeq rfl rfl (zeq rfl rfl (zeq rfl rfl (zdq ?_))))
      refine zfq (zcq (zcq (zbq (zaq rfl rfl (zeq rfl rfl (zdq ?_))))))
      refine zfq (zMq rfl (zcq (zZq (zhq rfl rfl (zDq rfl rfl ?_)))))
      refine zhq rfl rfl (zDq rfl rfl ?_)
      refine fl_ps rfl rfl rfl rfl rfl rfl (vmq v false hvl) (by simp) (by simp) (by first | rfl | kernel_rfl) ?_
      refine zhq rfl rfl (zDq rfl rfl ?_)
      refine zhq rfl rfl (z6q ?_)
      refine zfq (zjq ?_)
      refine zlq (by intro h; cases h) ?_
      exact fin (w := gW 0 33 [pW (k, v)]) (.inr rfl) (ent_one (b := 0) (x := pW (k, v)) 2 4 (by omega) (by omega) (by omega) rfl rfl rfl rfl (by simp)) rfl ⟨rfl, rfl, rfl, rfl⟩
  | fork tl tr ihL ihR =>
    intro n hr hl hv R
    have hle := hr.le
    cases hr with
    | fork h hl0 hr0 hL hR =>
    rename_i n l r k v
    have hlen : tl.all.length + tr.all.length ≤ 1000000 := by simpa [T.all] using hl
    obtain ⟨l1, e1⟩ : ∃ q, q = tl.all.map pW := ⟨_, rfl⟩
    obtain ⟨l2, e2⟩ : ∃ q, q = tr.all.map pW := ⟨_, rfl⟩
    have P1 : PL cfg G 46 [tW t0, .int .i64 (l : Int)] 88 33 l1 := e1 ▸ ihL l hL (by omega) fun p hp => hv p (by simp [T.all, hp])
    have P2 : PL cfg G 46 [tW t0, .int .i64 (r : Int)] 88 33 l2 := e2 ▸ ihR r hR (by omega) fun p hp => hv p (by simp [T.all, hp])
    have p1 : purL l1 = true := by rw [e1]; exact jLq _
    have p2 : purL l2 = true := by rw [e2]; exact jLq _
    have hl1 : l1.length ≤ 1000000 := by rw [e1, List.length_map]; omega
    have hl2 : l2.length ≤ 1000000 := by rw [e2, List.length_map]; omega
    have e3 : (T.fork tl tr).all.map pW = l1 ++ l2 := by rw [e1, e2]; simp [T.all]
    rw [e3]
    clear e1 e2 e3
    refine yrq (fn := Try.f46) rfl rfl rfl (Nat.le_of_ble_eq_true rfl) (fun k0 => ?_)
    refine zcq (zbq (zeq rfl rfl (zaq rfl rfl (zdq ?_))))
    refine zfq (zcq (zcq (zbq (zaq rfl rfl (zCq rfl rfl ?_)))))
    refine zdq ?_
    refine zfq ?_
    refine zEq rfl (fun h1 => ?_) (fun h1 => ?_)
    · exfalso; omega
    · refine ziq (zfq (zcq (zbq (zaq rfl rfl (zeq rfl rfl (zaq rfl rfl (zyq (n) rfl rfl (by first | rfl | omega) ⟨by omega, by omega⟩ ?_)))))))
      refine zaq rfl (z7q (i := n) rfl rfl rfl rfl rfl rfl rfl (yLq nW h)) (zeq rfl rfl (zeq rfl rfl (zeq rfl rfl (zdq ?_))))
      refine zfq (zcq (zcq (zbq (zaq rfl rfl (zeq rfl rfl (zdq ?_))))))
      refine zfq (zAq rfl (ziq (zfq (zcq (zZq (zDq rfl rfl ?_))))))
      refine zhq rfl rfl (zDq rfl rfl ?_)
      skip
      skip
      cases l1 with
      | nil =>
        cases l2 with
        | nil =>
          (refine yIq rfl (kDq rfl rfl rfl rfl rfl (by simp) P1 (by assumption) ?_); refine ⟨by first | rfl | kernel_rfl, ?_⟩)
          refine zDq rfl rfl ?_
          refine zhq rfl rfl (zDq rfl rfl ?_)
          (refine yIq rfl (kDq rfl rfl rfl rfl rfl (by simp) P2 (by assumption) ?_); refine ⟨by first | rfl | kernel_rfl, ?_⟩)
          refine jiq rfl (jBq rfl rfl (YRq rfl rfl rfl rfl rfl)) (by first | rfl | kernel_rfl) ?_
          refine zhq rfl rfl (z6q ?_)
          refine zfq (zjq ?_)
          refine fin (w := gW 0 33 ([] : List W)) (.inr rfl) (vcq (b := 0) (ty := 88) (l2 := []) (H0 := []) (fr2 := []) 4 (by omega) (by omega) rfl trivial trivial (fun x r h => by cases h) rfl trivial List.nodup_nil) rfl ⟨rfl, ?_, ?_, rfl⟩
          · rfl
          · rfl
        | cons y2 r2 =>
          (refine yIq rfl (kDq rfl rfl rfl rfl rfl (by simp) P1 (by assumption) ?_); refine ⟨by first | rfl | kernel_rfl, ?_⟩)
          refine zDq rfl rfl ?_
          refine zhq rfl rfl (zDq rfl rfl ?_)
          (refine yIq rfl (kDq rfl rfl rfl rfl rfl (by simp) P2 (by assumption) ?_); refine ⟨by first | rfl | kernel_rfl, ?_⟩)
          refine jiq rfl (jBq rfl rfl (Zfq (news := y2 :: r2) (k := ti88) rfl rfl rfl rfl (jRq rfl rfl rfl (qbq (by decide) rfl rfl)) (by simp) (by show (y2 :: r2).length * 56 ≤ _; omega) (by omega))) (by first | rfl | kernel_rfl) ?_
          refine zhq rfl rfl (z6q ?_)
          refine zfq (zjq ?_)
          refine fin (w := gW 0 33 (y2 :: r2)) (.inr rfl) (jbq (b := 0) (l2 := y2 :: r2) (H0 := []) (fr2 := []) 4 4 (by omega) (by omega) (by omega) (by simp) rfl rfl trivial trivial rfl p2 trivial List.nodup_nil) rfl ⟨rfl, ?_, ?_, rfl⟩
          · rfl
          · rfl
      | cons y1 r1 =>
        cases l2 with
        | nil =>
          (refine yIq rfl (kDq rfl rfl rfl rfl rfl (by simp) P1 (by assumption) ?_); refine ⟨by first | rfl | kernel_rfl, ?_⟩)
          refine zDq rfl rfl ?_
          refine zhq rfl rfl (zDq rfl rfl ?_)
          (refine yIq rfl (kDq rfl rfl rfl rfl rfl (by simp) P2 (by assumption) ?_); refine ⟨by first | rfl | kernel_rfl, ?_⟩)
          refine jiq rfl (jBq rfl rfl (YQq (k := ti88) rfl rfl rfl rfl rfl)) (by first | rfl | kernel_rfl) ?_
          refine zhq rfl rfl (z6q ?_)
          refine zfq (zjq ?_)
          refine fin (w := gW 0 33 (y1 :: r1)) (.inr rfl) (jbq (b := 0) (l2 := y1 :: r1) (H0 := []) (fr2 := []) 2 4 (by omega) (by omega) (by omega) (by simp) rfl rfl trivial trivial rfl p1 trivial List.nodup_nil) rfl ⟨rfl, ?_, ?_, rfl⟩
          · rw [List.append_nil]
          · rw [List.append_nil]; rfl
        | cons y2 r2 =>
          (refine yIq rfl (kDq rfl rfl rfl rfl rfl (by simp) P1 (by assumption) ?_); refine ⟨by first | rfl | kernel_rfl, ?_⟩)
          refine zDq rfl rfl ?_
          refine zhq rfl rfl (zDq rfl rfl ?_)
          (refine yIq rfl (kDq rfl rfl rfl rfl rfl (by simp) P2 (by assumption) ?_); refine ⟨by first | rfl | kernel_rfl, ?_⟩)
          refine jiq rfl (jBq rfl rfl (uWq (len := (y1 :: r1).length) (news := y2 :: r2) (olds := y1 :: r1) (k := ti88) rfl rfl rfl rfl (jRq rfl rfl rfl (qbq (by decide) rfl rfl)) (by simp) (by show ((y1 :: r1).length + (y2 :: r2).length) * 56 ≤ _; omega) (by omega) rfl (by show (y1 :: r1).length * 33 < 0 + ((y1 :: r1).length + (y2 :: r2).length) * 33; simp only [List.length_cons]; omega) rfl (qbq (by decide) rfl rfl))) (by first | rfl | kernel_rfl) ?_
          refine zhq rfl rfl (z6q ?_)
          refine zfq (zjq ?_)
          refine fin (w := gW 0 33 ((y1 :: r1) ++ (y2 :: r2))) (.inr rfl) (jbq (b := 0) (l2 := (y1 :: r1) ++ (y2 :: r2)) (n := (y1 :: r1).length + (y2 :: r2).length) (H0 := []) (fr2 := []) 4 4 (by omega) (by omega) (by omega) (by simp) rfl (by rw [List.length_append]) trivial trivial rfl (by rw [purL_app, p1, p2]; rfl) trivial List.nodup_nil) rfl ⟨rfl, ?_, ?_, rfl⟩
          · rfl
          · rfl
theorem g_get (b e : Nat) (l : List W) (r : W) : yDq 50 (.agg 2 [gW b e l, r]) 0 1 false = some (gW b e l) := by cases l <;> rfl
theorem g_put (b e : Nat) (l : List W) (r : W) (b' n : Nat) : quq 50 (.agg 2 [gW b e l, r]) 0 (.sl b' 0 0 n e none) = some (.agg 2 [.sl b' 0 0 n e none, r]) := by cases l <;> rfl
theorem rttwin_s (t : Tree) (hb : t.nodes.length ≤ 1000000000) (hv : ∀ x ∈ t.nodes, x.val.length ≤ 70368744177664) : PS cfg G 13 [tW t] (tW t) := by
  have e : (t.nodes.map nW).length = t.nodes.length := List.length_map _
  refine uLq (fn := Try.f13) rfl rfl rfl (Nat.le_of_ble_eq_true rfl) (fun R k0 => ?_)
  refine zcq (zbq (zeq rfl rfl (zeq rfl rfl (zdq ?_))))
  refine zfq (zcq (zbq (zaq rfl rfl (zeq rfl rfl (zaq rfl rfl (zeq rfl rfl (zeq rfl rfl (zdq ?_))))))))
  refine zfq (zcq (zcq (zbq ?_)))
  refine uMq (fun _ => ent_up (fr2 := [(1, .ptr 0 0), (2, .ptr 1 0), (3, .ptr 2 0)]) ⟨rfl, rfl, rfl, trivial⟩) ?_; refine zaq rfl rfl ?_
  refine zdq ?_
  refine zfq (zmq ?_)
  refine vdq (α := Nat) (fun i => i ≤ t.nodes.length) (fun i => [(4, .int .i64 (i : Int))]) [(1, _), (2, _), (3, _)] (fun i => [(2, 24, .agg 2 [gW 3 36 ((t.nodes.take i).map nW), .int .i64 t.root]), (1, 24, .agg 2 [.nils, .int .i64 0]), (0, 24, tW t)] ++ gH 3 70 36 ((t.nodes.take i).map nW)) (fun i => t.nodes.length - i) (0) ⟨rfl, rfl, rfl, trivial⟩ (Nat.zero_le _) ⟨rfl, trivial⟩ (rfl) (fun i hI => ?_)
  refine zcq (zcq (zbq (zaq rfl rfl (zaq rfl rfl (zeq rfl rfl (zNq (w' := .int .i64 (t.nodes.length : Int)) rfl rfl (by rw [← e]; rfl) ?_))))))
  refine zCq rfl rfl ?_
  refine zdq ?_
  refine zfq ?_
  refine zEq rfl (fun h1 => ?_) (fun h1 => ?_)
  · have hi : i < t.nodes.length := by omega
    obtain ⟨x, hx⟩ : ∃ x, t.nodes[i]? = some x := ⟨_, List.getElem?_eq_getElem hi⟩
    have hxv := hv x (List.mem_of_getElem? hx)
    have el : ((t.nodes.take i).map nW).length = i := by simp; omega
    have es : (t.nodes.take (i + 1)).map nW = (t.nodes.take i).map nW ++ [nW x] := by rw [List.take_add_one, hx, List.map_append]; rfl
    have ep : purL ((t.nodes.take i).map nW ++ [nW x]) = true := by rw [← es]; exact Yzq nW_pur _
    refine ziq (zfq (zcq (zmq (zcq (zbq (zaq rfl rfl (zeq rfl rfl (zaq rfl rfl (zaq rfl (z7q (i := i) rfl rfl rfl rfl rfl rfl rfl (yLq nW hx)) (zeq rfl rfl (zeq rfl rfl (zeq rfl rfl (zdq ?_)))))))))))))
    refine zfq (zcq (zbq (zaq rfl rfl (zeq rfl rfl (ztq rfl rfl rfl rfl rfl rfl (vmq x.val false hxv) ?_)))))
    refine zaq rfl rfl (zeq rfl rfl (zdq ?_))
    refine zfq (zbq (zaq rfl rfl (zeq rfl (yYq rfl rfl rfl (g_get 3 36 _ _)) (zeq rfl rfl (zeq rfl rfl (zeq rfl (jBq rfl rfl (Z2q [_, _, _, _, _] (k := ti70) (news := [nW x]) rfl rfl rfl rfl rfl (jRq rfl rfl rfl rfl) (by simp) (by show (((t.nodes.take i).map nW).length + 1) * 80 ≤ _; omega) (by show ((t.nodes.take i).map nW).length + 1 ≤ _; omega) rfl (by simp))) ?_))))))
    refine zaq rfl rfl (zeq rfl (uIq rfl rfl rfl rfl rfl (g_put 3 36 _ _ _ _) rfl) (zdq ?_))
    refine zrq (by intro i h; cases h) ?_
    refine zfq (zbq (zaq rfl rfl (zyq (i + 1) rfl rfl (by first | rfl | omega) ⟨by omega, by omega⟩ ?_)))
    refine zaq rfl rfl (zdq ?_)
    skip
    refine vtq (i + 1) hi (by omega) ?_
    simp only
    have hne : (t.nodes.take i).map nW ++ [nW x] ≠ [] := List.append_ne_nil_of_right_ne_nil _ (by simp)
    rw [es, gW_some hne, gH_some hne]
    refine jnq (b := 3) (k := 6) (by omega) (by omega) (by omega) ⟨⟨rfl, rfl⟩, ⟨rfl, rfl⟩, ⟨rfl, rfl⟩, ⟨rfl, rfl⟩, trivial⟩ ⟨⟨by omega, rfl, rfl⟩, ⟨by omega, rfl, rfl⟩, ⟨by omega, ?_, zwq (by simp)⟩, ⟨by omega, ?_, zwq ep⟩, trivial⟩ (by simp)
    · rw [ysq (by simp)]; rfl
    · rw [ysq (by exact ep)]; rfl
  · have hi : i = t.nodes.length := by omega
    subst hi
    rw [List.take_length]
    refine ytq ?_
    refine zlq (by intro h; cases h) ?_
    refine q_out (by intro h; cases h) ?_
    refine qoq (zfq (zcq (zbq (zeq rfl rfl (zeq rfl rfl (zdq ?_))))))
    refine zfq (zjq ?_)
    refine xyq (by first | exact .inr rfl | exact .inl rfl) rfl ?_
    exact .agg (.cons (Zwq (H0 := [(2, 24, .agg 2 [gW 3 36 (t.nodes.map nW), .int .i64 t.root]), (1, 24, .agg 2 [gW 3 36 (t.nodes.map nW), .int .i64 t.root]), (0, 24, tW t)]) (by decide) (xlq _) (by simp)) (.cons (.pur rfl) .nil))
theorem tree_ext {a b : Tree} (h1 : a.nodes = b.nodes) (h2 : a.root = b.root) : a = b := by cases a; cases b; simp only at h1 h2; subst h1; subst h2; rfl
theorem node_ext {a b : Node} (h1 : a.leaf = b.leaf) (h2 : a.key = b.key) (h3 : a.val = b.val) (h4 : a.left = b.left) (h5 : a.right = b.right) : a = b := by cases a; cases b; simp only at h1 h2 h3 h4 h5; subst h1; subst h2; subst h3; subst h4; subst h5; rfl
noncomputable instance (a b : Tree) : Decidable (a = b) := Classical.propDecidable _
theorem Yjq (a b : Tree) (hb : a.nodes.length ≤ 1000000000) : PS cfg G 22 [tW a, tW b] (.bool (decide (a = b))) := by
  have ea : (a.nodes.map nW).length = a.nodes.length := List.length_map _
  have eb : (b.nodes.map nW).length = b.nodes.length := List.length_map _
  refine ynq (fn := Try.f22) rfl rfl rfl (Nat.le_of_ble_eq_true rfl) (fun R k0 => ?_)
  refine zcq (zbq (zeq rfl rfl (zeq rfl rfl (zaq rfl rfl (zdq ?_)))))
  refine zfq (zcq (zcq (zbq (zaq rfl rfl (zeq rfl rfl (zaq rfl rfl (zeq rfl rfl ?_)))))))
  refine y3q rfl rfl (fun h1 => ?_) (fun h1 => ?_)
  · have hno : ¬ a = b := fun h => h1 (by rw [h])
    refine zaq rfl rfl (zgq rfl (zgq rfl (zgq rfl (zgq rfl (zgq rfl (zgq rfl (zgq rfl (zaq rfl rfl (zdq ?_)))))))))
    refine zfq (zMq rfl (zcq (zbq (zaq rfl rfl (zdq ?_)))))
    refine zfq (zjq ?_)
    refine zlq (by intro h; cases h) ?_
    exact znq (.inr rfl) rfl (by rw [decide_eq_false hno])
  have hroot : a.root = b.root := by simpa using h1
  refine zaq rfl rfl (zaq rfl rfl (zeq rfl rfl (zNq (w' := .int .i64 (a.nodes.length : Int)) rfl rfl (by rw [← ea]; rfl) ?_)))
  refine zaq rfl rfl (zeq rfl rfl (zNq (w' := .int .i64 (b.nodes.length : Int)) rfl rfl (by rw [← eb]; rfl) ?_))
  refine zCq rfl rfl ?_
  refine zaq rfl rfl (zdq ?_)
  refine zfq ?_
  refine zEq rfl (fun h2 => ?_) (fun h2 => ?_)
  · have hno : ¬ a = b := fun h => h2 (by rw [h])
    refine zcq (zbq (zaq rfl rfl (zdq ?_)))
    refine zfq (zjq ?_)
    refine zlq (by intro h; cases h) ?_
    exact znq (.inr rfl) rfl (by rw [decide_eq_false hno])
  have hlen : a.nodes.length = b.nodes.length := by omega
  refine ziq (zfq (zcq (zcq (zbq (zaq rfl rfl (zdq ?_))))))
  refine zfq (zmq ?_)
  refine ySq (α := Nat) (fun i => i ≤ a.nodes.length ∧ a.nodes.take i = b.nodes.take i) (fun i => [(5, .int .i64 (i : Int))]) [(2, _), (3, _), (4, _)] (fun i => a.nodes.length - i) (0) ⟨rfl, rfl, rfl, trivial⟩ (⟨Nat.zero_le _, rfl⟩) ⟨rfl, trivial⟩ (fun i hI => ?_)
  obtain ⟨g1, g2⟩ := hI
  refine zcq (zcq (zbq (zaq rfl rfl (zaq rfl rfl (zeq rfl rfl (zNq (w' := .int .i64 (a.nodes.length : Int)) rfl rfl (by rw [← ea]; rfl) ?_))))))
  refine zCq rfl rfl ?_
  refine zdq ?_
  refine zfq ?_
  refine zEq rfl (fun h3 => ?_) (fun h3 => ?_)
  · have hi : i < a.nodes.length := by omega
    obtain ⟨x, hx⟩ : ∃ x, a.nodes[i]? = some x := ⟨_, List.getElem?_eq_getElem hi⟩
    obtain ⟨y, hy⟩ : ∃ y, b.nodes[i]? = some y := ⟨_, List.getElem?_eq_getElem (by omega)⟩
    have no : x ≠ y → ¬ a = b := fun h q => h (by subst q; exact Option.some.inj (hx.symm.trans hy))
    refine ziq (zfq (zcq (zmq (zcq (zZq (zhq rfl rfl (zDq rfl rfl ?_)))))))
    refine zhq rfl rfl (zhq rfl (z7q (i := i) rfl rfl rfl rfl rfl rfl rfl (yLq nW hx)) (zDq rfl rfl ?_))
    refine zhq rfl rfl (zDq rfl rfl ?_)
    refine zhq rfl rfl (zhq rfl (z7q (i := i) rfl rfl rfl rfl rfl rfl rfl (yLq nW hy)) (zDq rfl rfl ?_))
    refine zDq rfl rfl ?_
    refine zDq rfl rfl ?_
    refine zDq rfl rfl ?_
    refine zDq rfl rfl ?_
    refine z6q ?_
    refine zfq (zcq (zbq (zaq rfl rfl (zeq rfl rfl (zaq rfl rfl (zeq rfl rfl ?_))))))
    refine y3q rfl rfl (fun h4 => ?_) (fun h4 => ?_)
    · have hno := no fun q => by rw [q] at h4; simp at h4
      refine zaq rfl rfl (zgq rfl (zgq rfl (zgq rfl (zgq rfl (zgq rfl (zaq rfl rfl (zaq rfl rfl (zgq rfl (zgq rfl (zgq rfl (zgq rfl (zgq rfl (zgq rfl (zaq rfl rfl (zaq rfl rfl (zgq rfl (zgq rfl (zgq rfl (zgq rfl (zgq rfl (zaq rfl rfl (zaq rfl rfl (zgq rfl ?_)))))))))))))))))))))))
      refine zgq rfl (zgq rfl (zgq rfl (zgq rfl (zaq rfl rfl (zdq ?_)))))
      refine zfq (zMq rfl (zcq (zbq (zaq rfl rfl (zdq ?_)))))
      refine zfq (zjq ?_)
      refine zrq (by intro i h; cases h) ?_
      refine zlq (by intro h; cases h) ?_
      refine yhq (by intro h; cases h) ?_
      refine zrq (by intro i h; cases h) ?_
      refine zlq (by intro h; cases h) ?_
      exact znq (.inr rfl) rfl (by rw [decide_eq_false hno])
    refine zaq rfl rfl (zaq rfl rfl (zeq rfl rfl (zaq rfl rfl (zeq rfl rfl ?_))))
    refine op_dec rfl (uBq rfl rfl rfl rfl (qOq rfl rfl rfl rfl rfl rfl _ _ 250)) (uoq yPq) (fun h5 => ?_) (fun h5 => ?_)
    · have hno := no fun q => h5 (by rw [q])
      refine zaq rfl rfl (zaq rfl rfl (zgq rfl (zgq rfl (zgq rfl (zgq rfl (zgq rfl (zgq rfl (zaq rfl rfl (zaq rfl rfl (zgq rfl (zgq rfl (zgq rfl (zgq rfl (zgq rfl (zaq rfl rfl (zaq rfl rfl (zgq rfl (zgq rfl (zgq rfl (zgq rfl (zgq rfl (zaq rfl rfl (zdq ?_)))))))))))))))))))))))
      refine zfq (zMq rfl (zcq (zbq (zaq rfl rfl (zdq ?_)))))
      refine zfq (zjq ?_)
      refine zrq (by intro i h; cases h) ?_
      refine zlq (by intro h; cases h) ?_
      refine yhq (by intro h; cases h) ?_
      refine zrq (by intro i h; cases h) ?_
      refine zlq (by intro h; cases h) ?_
      exact znq (.inr rfl) rfl (by rw [decide_eq_false hno])
    refine zaq rfl rfl (zaq rfl rfl (zaq rfl rfl (zeq rfl rfl (zaq rfl rfl (zeq rfl rfl (ztq rfl rfl rfl rfl rfl rfl (same_s _ _ _ _) ?_))))))
    refine k6q (fun h6 => ?_) (fun h6 => ?_)
    · refine zaq rfl rfl (zaq rfl rfl (zaq rfl rfl (zaq rfl rfl (zeq rfl rfl (zaq rfl rfl (zeq rfl rfl ?_))))))
      refine y3q rfl rfl (fun h7 => ?_) (fun h7 => ?_)
      · have hno := no fun q => h7 (by rw [q])
        refine zaq rfl rfl (zaq rfl rfl (zgq rfl (zgq rfl (zgq rfl (zgq rfl (zgq rfl (zaq rfl rfl (zdq ?_))))))))
        refine zfq (zMq rfl (zcq (zbq (zaq rfl rfl (zdq ?_)))))
        refine zfq (zjq ?_)
        refine zrq (by intro i h; cases h) ?_
        refine zlq (by intro h; cases h) ?_
        refine yhq (by intro h; cases h) ?_
        refine zrq (by intro i h; cases h) ?_
        refine zlq (by intro h; cases h) ?_
        exact znq (.inr rfl) rfl (by rw [decide_eq_false hno])
      refine zaq rfl rfl (zaq rfl rfl (zaq rfl rfl (zeq rfl rfl (zaq rfl rfl (zeq rfl rfl (zCq rfl rfl ?_))))))
      refine zaq rfl rfl (zdq ?_)
      refine zfq ?_
      refine zEq rfl (fun h8 => ?_) (fun h8 => ?_)
      · have hno := no fun q => h8 (by rw [q])
        refine zcq (zbq (zaq rfl rfl (zdq ?_)))
        refine zfq (zjq ?_)
        refine zrq (by intro i h; cases h) ?_
        refine zlq (by intro h; cases h) ?_
        refine yhq (by intro h; cases h) ?_
        refine zrq (by intro i h; cases h) ?_
        refine zlq (by intro h; cases h) ?_
        exact znq (.inr rfl) rfl (by rw [decide_eq_false hno])
      have hxy : x = y := node_ext (by simpa using h4) (by simpa using h5) h6 (by simpa using h7) (by simpa using h8)
      refine ziq (zrq (by intro i h; cases h) ?_)
      refine zfq (zbq (zaq rfl rfl (zyq (i + 1) rfl rfl (by first | rfl | omega) ⟨by omega, by omega⟩ ?_)))
      refine zaq rfl rfl (zdq ?_)
      exact ykq (i + 1) (⟨hi, by rw [List.take_add_one, List.take_add_one, g2, hx, hy, hxy]⟩) (by omega) ⟨rfl, trivial⟩ ⟨rfl, rfl, rfl, trivial⟩ (by repeat (first | exact trivial | refine ⟨by first | rfl | exact zwq (by first | rfl | (simp; done)), ?_⟩)) (by omega) (by repeat (first | exact zOq | refine zRq (by omega) ?_ | refine zPq (by omega) ?_ | refine zQq (by omega) ?_)) rfl
    · have hno := no fun q => h6 (by rw [q])
      refine zaq rfl rfl (zaq rfl rfl (zaq rfl rfl (zgq rfl (zgq rfl (zgq rfl (zgq rfl (zgq rfl (zaq rfl rfl (zaq rfl rfl (zgq rfl (zgq rfl (zgq rfl (zgq rfl (zgq rfl (zaq rfl rfl (zdq ?_))))))))))))))))
      refine zfq (zMq rfl (zcq (zbq (zaq rfl rfl (zdq ?_)))))
      refine zfq (zjq ?_)
      refine zrq (by intro i h; cases h) ?_
      refine zlq (by intro h; cases h) ?_
      refine yhq (by intro h; cases h) ?_
      refine zrq (by intro i h; cases h) ?_
      refine zlq (by intro h; cases h) ?_
      exact znq (.inr rfl) rfl (by rw [decide_eq_false hno])
  · refine ytq ?_
    refine zlq (by intro h; cases h) ?_
    refine yhq (by intro h; cases h) ?_
    refine qoq (zfq (zcq (zbq (zaq rfl rfl (zdq ?_)))))
    refine zfq (zjq ?_)
    refine znq (.inr rfl) rfl ?_
    rw [decide_eq_true]
    have := g2
    rw [List.take_of_length_le (by omega), List.take_of_length_le (by omega)] at this
    exact tree_ext this hroot
theorem rall_s (t : Tree) (n : Nat) (t0 : T) (h : IsT t n t0) : PS cfg G 21 [tW t] (psW t0.all) := by
  have h1 := h.all_le
  have h2 := h.len
  have h3 := h.root
  obtain ⟨ns, root⟩ := t
  simp only at h1 h2 h3
  subst h3
  have P := (rfor_s (G := G) ⟨ns, (n : Int)⟩ (by show ns.length ≤ _; omega) t0 n h.rep (by omega) (fun p hp => by have := (h.val p hp).2; omega)).ps (by decide) (jLq _)
  refine ynq (fn := Try.f21) rfl rfl rfl (Nat.le_of_ble_eq_true rfl) (fun R k0 => ?_)
  refine zcq (zbq (zeq rfl rfl (zaq rfl rfl (zdq ?_))))
  refine zfq (zcq (zbq (zeq rfl rfl (zaq rfl rfl (zeq rfl rfl ?_)))))
  refine op_ps rfl rfl rfl rfl rfl rfl P (by simp) (by simp) ?_
  refine zaq rfl rfl (zdq ?_)
  refine zfq (zjq ?_)
  exact znq (.inr rfl) rfl rfl
end Go.Proofs.Ytgeelfdgnehdnaa

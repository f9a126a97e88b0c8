/-
  What the proof of AcctTotal stands on, part 8. No condition.
-/
import Derived.OpenShut
import Derived.Handed
import Derived.Test.YtgeelfdgnehdnaaZAcctTotalG
namespace Go.Proofs.Ytgeelfdgnehdnaa
open Go.RowKit
set_option linter.unusedSimpArgs false
set_option linter.unusedVariables false
attribute [local irreducible] CoW OpW FlW Step Spec
variable {G : Nat → Option W}
noncomputable def mkW (b n : Nat) (root : Int) : W := .agg 2 [.sl b 0 0 n 36 none, .int .i64 root]
theorem nsW_snoc (ns : List Node) (x : Node) : nsW (ns ++ [x]) = .arr ((ns.length + 1) * 36) 36 (ns.map nW ++ [nW x]) := by simp [nsW]
theorem node_s (ns : List Node) (root : Int) (x : Node) (hl : ns.length ≤ 1000000000) : PSpec cfg G 74 2 [.ptr 0 0, nW x] [(0, 101, mkW 1 ns.length root), (1, 70, nsW ns)] fun w hp nw =>
    w = .int .i64 ((ns.length + 1 : Nat) : Int) ∧ hp = [(0, 101, mkW 2 (ns.length + 1) root), (2, 70, nsW (ns ++ [x]))] ∧ nw = 3 := by
  intro R
  have el : (ns.map nW).length = ns.length := List.length_map _
  refine spec_in (fn := Try.f74) rfl rfl rfl (Nat.le_of_ble_eq_true rfl) (fun k0 => ?_)
  refine co_seq ?_
  refine co_region ?_
  refine op_mem rfl rfl ?_
  refine op_pure rfl rfl ?_
  refine op_nil ?_
  refine q_seq ?_
  refine co_seq ?_
  refine co_flow ?_
  iterate 8 first | refine fl_pure rfl rfl ?_ | refine fl_mem rfl rfl (by first | rfl | kernel_rfl) ?_
  refine fl_mem rfl (ap_op rfl rfl (app_sl (len := ns.length) (news := [nW x]) (olds := ns.map nW) (k := ti70) rfl rfl rfl rfl (src_sl rfl rfl rfl rfl) (by simp) (by show (ns.length + 1) * 80 ≤ _; omega) (by show ns.length + 1 ≤ _; omega) rfl (by show ns.length * 36 < 0 + (ns.length + 1) * 36; omega) rfl (sub_wholeE (by decide) el.symm rfl))) (by first | rfl | kernel_rfl) ?_
  iterate 3 refine fl_pure rfl rfl ?_
  refine fl_mem rfl rfl (by first | rfl | kernel_rfl) ?_
  refine fl_nil ?_
  refine q_seq ?_
  refine co_seq ?_
  refine co_region ?_
  iterate 4 refine op_pure rfl rfl ?_
  refine op_mem rfl rfl ?_
  first | refine op_len rfl rfl ?_ | refine op_pure rfl rfl ?_
  refine op_pure rfl rfl ?_
  refine op_nil ?_
  refine q_seq ?_
  refine co_ret ?_
  refine fin (.inr rfl) (ent_last (b := 2) (k := 4) (fr2 := [(4, .int .i64 ((ns.length + 1 : Nat) : Int))]) (hp2 := [(0, 101, mkW 2 (ns.length + 1) root), (2, 70, nsW (ns ++ [x]))]) (by omega) (by omega) (by show 4 < 5; omega) ⟨⟨rfl, rfl⟩, trivial⟩ ⟨⟨by omega, rfl, rfl⟩, ⟨by omega, ?_, ref_pur (nsW_p _)⟩, trivial⟩ (by simp)) rfl ⟨rfl, rfl, rfl, rfl⟩
  rw [ren_pur (nsW_p _), nsW_snoc]
  rfl
noncomputable def Mk (root : Int) (P : List Node → Nat → Prop) : W → HpW → Nat → Prop := fun w hp nw =>
  ∃ ns m, P ns m ∧ w = .int .i64 ((m : Nat) : Int) ∧ hp = [(0, 101, mkW 2 ns.length root), (2, 70, nsW ns)] ∧ nw = 3
theorem step_mk {o : Oper} {fr : FrW} {hp : HpW} {nw : Nat} {R : Res} {post : W → HpW → Nat → Res → Option EvW → Prop} {x : Operand} {xs : Array Operand} {ats : Array TypeId} {f : FuncId} {us : List W} {root : Int} {ns : List Node} {P : List Node → Nat → Prop} (k : Nat)
    (ho : o.op = .call ⟨.value x, xs, ats⟩) (hx : evW cfg G fr x = some (.fn f [] [])) (he : cfg.ext f = none) (hxs : evLW cfg G fr xs.toList = some (.ptr 0 0 :: us)) (hpu : purL us = true) (hk : 0 < k) (hkn : k < nw)
    (h0 : hget hp 0 = some (101, mkW k ns.length root)) (h1 : hget hp k = some (70, nsW ns)) (sp : PSpec cfg G f 2 (.ptr 0 0 :: us) [(0, 101, mkW 1 ns.length root), (1, 70, nsW ns)] (Mk root P))
    (hpost : ∀ ns' m, P ns' m → post (.int .i64 ((m : Nat) : Int)) ((0, 101, mkW nw ns'.length root) :: (nw, 70, nsW ns') :: delA [0, k] hp) (nw + 1) R (some .dirty)) : Step cfg G o fr hp nw R post := by
  refine step_call (ext := [0, k]) (ws := .ptr 0 0 :: us) ho hx he hxs ?_ sp ?_ ?_ (by simp) (handed2 h0 (by rw [ren_pur (nsW_p _)]; exact h1) rfl (ref_pur (nsW_p _))) ?_ ?_
  · show .ptr 0 0 :: (us ++ []) = W.ptr 0 0 :: renWL (numC [0, k] nw) us
    rw [renWL_pur hpu, List.append_nil]
  · simp; omega
  · intro b hb
    simp only [List.mem_cons, List.not_mem_nil, or_false] at hb
    omega
  · have h := ref_pur (m := 2) (w := .tup us) hpu
    have h : refL 2 us = true := h
    show (refB 2 (.ptr 0 0) && refL 2 us) = true
    rw [h]; rfl
  · rintro w hp1 nw1 ⟨ns', m, h, rfl, rfl, rfl⟩
    have e : renH (numC [0, k] nw) [(0, 101, mkW 2 ns'.length root), (2, 70, nsW ns')] = [(0, 101, mkW nw ns'.length root), (nw, 70, nsW ns')] := by
      simp only [renH, ren_pur (nsW_p _)]; rfl
    have h := hpost ns' m h
    rw [show ([0, k] : List Nat).length = 2 from rfl, e]
    exact h
theorem fin_mk {k0 : Nat} {rs : List ResultVar} {x : Exit} {fr : FrW} {hp : HpW} {nw : Nat} {R : Res} {root : Int} {P : List Node → Nat → Prop} {ns : List Node} {m : Nat} (s k : Nat) (hx : x = .normal ∨ x = .ret) (hk : 2 ≤ k) (hkn : k < nw) (hf : getW fr s = some (.int .i64 ((m : Nat) : Int)))
    (h0 : hget hp (tau1 2 k 0) = some (101, renW (tau1 2 k) (mkW 2 ns.length root))) (h1 : hget hp (tau1 2 k 2) = some (70, nsW ns)) (ho : outW cfg [(s, .int .i64 ((m : Nat) : Int))] [(0, 101, mkW 2 ns.length root), (2, 70, nsW ns)] rs = some (.int .i64 ((m : Nat) : Int))) (hP : P ns m) :
    QFin cfg G 2 k0 rs (fun w hp nw R' => R' = R ∧ Mk root P w hp nw) x fr hp nw R :=
  fin hx (ent_last (b := 2) (k := k) (fr2 := [(s, .int .i64 ((m : Nat) : Int))]) (hp2 := [(0, 101, mkW 2 ns.length root), (2, 70, nsW ns)]) (by omega) hk hkn ⟨⟨hf, rfl⟩, trivial⟩ ⟨⟨by omega, h0, rfl⟩, ⟨by omega, by rw [ren_pur (nsW_p _)]; exact h1, ref_pur (nsW_p _)⟩, trivial⟩ (by simp)) ho ⟨rfl, ns, m, hP, rfl, rfl, rfl⟩
def NodeP (ns : List Node) (x : Node) : List Node → Nat → Prop := fun ns' m => ns' = ns ++ [x] ∧ m = ns.length + 1
theorem node_m (ns : List Node) (root : Int) (x : Node) (hl : ns.length ≤ 1000000000) : PSpec cfg G 74 2 [.ptr 0 0, nW x] [(0, 101, mkW 1 ns.length root), (1, 70, nsW ns)] (Mk root (NodeP ns x)) := by
  have h := node_s (G := G) ns root x hl
  intro R
  have e : (fun w hp nw R' => R' = R ∧ (w = .int .i64 ((ns.length + 1 : Nat) : Int) ∧ hp = [(0, 101, mkW 2 (ns.length + 1) root), (2, 70, nsW (ns ++ [x]))] ∧ nw = 3)) = (fun (w : W) (hp : HpW) (nw : Nat) (R' : Res) => R' = R ∧ Mk root (NodeP ns x) w hp nw) := by
    funext w hp nw R'
    refine propext (and_congr_right fun _ => ⟨fun ⟨h1, h2, h3⟩ => ⟨_, _, ⟨rfl, rfl⟩, h1, by rw [h2]; simp, h3⟩, ?_⟩)
    rintro ⟨ns', m, ⟨rfl, rfl⟩, h1, h2, h3⟩
    exact ⟨h1, by rw [h2]; simp, h3⟩
  exact e ▸ h R
def Gr (ns : List Node) (f : Nat) (t : T) : List Node → Nat → Prop := fun ns' m => (∃ ms, ns' = ns ++ ms ∧ ms.length ≤ f) ∧ okN ns' ∧ Rep ns' m t
theorem okN_snoc {ns : List Node} {x : Node} (h : okN ns) (hx : oneB x ns.length) : okN (ns ++ [x]) := fun i y hy => by
  rcases Nat.lt_trichotomy i ns.length with h1 | rfl | h1
  · rw [List.getElem?_append_left h1] at hy; exact h i y hy
  · rw [List.getElem?_append_right (Nat.le_refl _), Nat.sub_self] at hy
    cases hy; exact hx
  · rw [List.getElem?_append_right (by omega), List.getElem?_eq_none (by simp; omega)] at hy
    cases hy
theorem at_snoc (ns : List Node) (x : Node) : (ns ++ [x])[ns.length]? = some x := by simp
theorem leaf_one {k : Dig} {v : List UInt8} (hv : MayP [(k, v)]) (n : Nat) : oneB ⟨true, k, v, 0, 0⟩ n := by simp [oneB, hv]
theorem gr_leaf {ns : List Node} {k : Dig} {v : List UInt8} (hok : okN ns) (hv : MayP [(k, v)]) {f : Nat} (hf : 0 < f) : Gr ns f (.leaf k v) (ns ++ [⟨true, k, v, 0, 0⟩]) (ns.length + 1) :=
  ⟨⟨_, rfl, hf⟩, okN_snoc hok (leaf_one hv _), .leaf (at_snoc ns _)⟩
theorem gr_fork {ns ms : List Node} {l r f : Nat} {L R : T} (hms : ms.length ≤ f) (hok : okN (ns ++ ms)) (hl : Rep (ns ++ ms) l L) (hr : Rep (ns ++ ms) r R) (h : 0 < l + r) : Gr ns (f + 1) (.fork L R) (ns ++ ms ++ [forkN l r]) ((ns ++ ms).length + 1) :=
  ⟨⟨ms ++ [forkN l r], by simp, by simp; omega⟩, okN_snoc hok (by have := hl.le; have := hr.le; simp only [oneB, forkN, Bool.false_eq_true, if_false]; exact ⟨by omega, by omega, trivial, trivial, by omega⟩), .fork (at_snoc _ _) hl.le hr.le (hl.app _) (hr.app _)⟩
theorem node_all (ns : List Node) {i : Nat} {x : Node} (h : ns[i]? = some x) : ∃ w, getAtW 50 (nsW ns) (0 + i * 36) 36 true = some w ∧ (w = nW x ∨ (ns.length = 1 ∧ w = .arr 36 36 [nW x])) := by
  by_cases e : ns.length = 1
  · obtain ⟨y, rfl⟩ := List.length_eq_one_iff.1 e
    cases i with
    | zero => cases h; exact ⟨_, rfl, .inr ⟨rfl, rfl⟩⟩
    | succ i => simp at h
  · have hi := (List.getElem?_eq_some_iff.1 h).1
    exact ⟨_, get_in (off := 0) (map_at nW h) (by omega) (by omega) (by rw [show Nat.beq 36 (ns.length * 36) = false from by rw [← Bool.not_eq_true, Nat.beq_eq]; omega]; simp) rfl, .inl rfl⟩
abbrev WithS (G : Nat → Option W) (root : Int) (k : Dig) (v : List UInt8) (ns : List Node) (n d : Nat) (P : List Node → Nat → Prop) : Prop := PSpec cfg G 55 2 [.ptr 0 0, .int .i64 ((n : Nat) : Int), .int .i64 ((d : Nat) : Int), nW ⟨true, k, v, 0, 0⟩] [(0, 101, mkW 1 ns.length root), (1, 70, nsW ns)] (Mk root P)
theorem with_nil {root : Int} {k : Dig} {v : List UInt8} {ns : List Node} {d f : Nat} (hok : okN ns) (hv : MayP [(k, v)]) (hf : 0 < f) (hl : ns.length ≤ 1000000000) : WithS G root k v ns 0 d (Gr ns f (.leaf k v)) := by
  intro R
  refine spec_in (fn := Try.f55) rfl rfl rfl (Nat.le_of_ble_eq_true rfl) (fun k0 => ?_)
  refine co_seq ?_
  refine co_region ?_
  refine op_mem rfl rfl ?_
  refine op_pure rfl rfl ?_
  refine op_nil ?_
  refine q_seq ?_
  iterate 2 refine co_seq ?_
  refine co_region ?_
  refine op_pure rfl rfl ?_
  refine op_cmp rfl rfl (by first | exact ltI_iff | exact eqI_iff | exact nlt_iff | exact neq_iff | exact dec_iff | exact bool_iff) ?_
  refine op_nil ?_
  refine q_seq ?_
  refine co_dec rfl (by first | exact ltI_iff | exact eqI_iff | exact nlt_iff | exact neq_iff | exact dec_iff | exact bool_iff) (fun h1 => ?_) (fun h1 => ?_)
  · refine co_seq ?_
    refine co_region ?_
    refine op_pure rfl rfl ?_
    refine op_mem rfl rfl ?_
    (refine op_step rfl (step_mk 1 rfl rfl rfl rfl (by simp) (by omega) (by show 1 < 3; omega) rfl rfl (node_m ns root _ hl) ?_); rintro ns1 m ⟨rfl, rfl⟩)
    refine op_pure rfl rfl ?_
    refine op_nil ?_
    refine q_seq ?_
    refine co_ret ?_
    refine q_seqx (by intro h; cases h) ?_
    exact fin_mk 8 3 (.inr rfl) (by omega) (by show 3 < 4; omega) rfl rfl rfl rfl (gr_leaf hok hv hf)
  · exfalso; omega
theorem with_hit {root : Int} {k : Dig} {v v' : List UInt8} {ns : List Node} {i d f : Nat} {l r : Int} (hx : ns[i]? = some ⟨true, k, v', l, r⟩) (hok : okN ns) (hv : MayP [(k, v)]) (hf : 0 < f) (hl : ns.length ≤ 1000000000) : WithS G root k v ns (i + 1) d (Gr ns f (.leaf k v)) := by
  intro R
  have hi := (List.getElem?_eq_some_iff.1 hx).1
  obtain ⟨w, hw, rfl | ⟨_, rfl⟩⟩ := node_all ns hx
  · refine spec_in (fn := Try.f55) rfl rfl rfl (Nat.le_of_ble_eq_true rfl) (fun k0 => ?_)
    refine co_seq ?_
    refine co_region ?_
    refine op_mem rfl rfl ?_
    refine op_pure rfl rfl ?_
    refine op_nil ?_
    refine q_seq ?_
    iterate 2 refine co_seq ?_
    refine co_region ?_
    refine op_pure rfl rfl ?_
    refine op_cmp rfl rfl (by first | exact ltI_iff | exact eqI_iff | exact nlt_iff | exact neq_iff | exact dec_iff | exact bool_iff) ?_
    refine op_nil ?_
    refine q_seq ?_
    refine co_dec rfl (by first | exact ltI_iff | exact eqI_iff | exact nlt_iff | exact neq_iff | exact dec_iff | exact bool_iff) (fun h1 => ?_) (fun h1 => ?_)
    · exfalso; omega
    · refine co_skip ?_
      refine q_seq ?_
      refine co_seq ?_
      refine co_region ?_
      iterate 6 first | refine op_pure rfl rfl ?_ | refine op_mem rfl rfl ?_
      refine op_nat (i) rfl rfl (by first | rfl | omega) ⟨by omega, by omega⟩ ?_
      refine op_pure rfl (ix_sl (i := i) rfl rfl rfl rfl rfl rfl rfl hi) ?_
      refine op_mem rfl (ld_own rfl rfl rfl hw) ?_
      iterate 2 refine op_mem rfl rfl ?_
      refine op_nil ?_
      refine q_seq ?_
      iterate 2 refine co_seq ?_
      refine co_region ?_
      refine op_pure rfl rfl ?_
      refine op_mem rfl rfl ?_
      refine op_bs (by first | exact ltI_iff | exact eqI_iff | exact nlt_iff | exact neq_iff | exact dec_iff | exact bool_iff) (fun h2 => ?_) (fun h2 => ?_)
      · iterate 5 first | refine op_pure rfl rfl ?_ | refine op_mem rfl rfl ?_
        refine op_cmp rfl (bin_eql rfl rfl rfl rfl (eq_dig rfl rfl rfl rfl rfl rfl _ _ 250)) dec_iff ?_
        refine op_pure rfl rfl ?_
        refine op_nil ?_
        refine q_seq ?_
        refine co_dec rfl (by first | exact ltI_iff | exact eqI_iff | exact nlt_iff | exact neq_iff | exact dec_iff | exact bool_iff) (fun h3 => ?_) (fun h3 => ?_)
        · refine co_seq ?_
          refine co_region ?_
          refine op_pure rfl rfl ?_
          refine op_mem rfl rfl ?_
          (refine op_step rfl (step_mk 1 rfl rfl rfl rfl (by simp) (by omega) (by show 1 < 4; omega) rfl rfl (node_m ns root _ hl) ?_); rintro ns1 m ⟨rfl, rfl⟩)
          refine op_pure rfl rfl ?_
          refine op_nil ?_
          refine q_seq ?_
          refine co_ret ?_
          refine q_seqx (by intro h; cases h) ?_
          exact fin_mk 8 4 (.inr rfl) (by omega) (by show 4 < 5; omega) rfl rfl rfl rfl (gr_leaf hok hv hf)
        · exfalso; exact h3 rfl
      · exfalso; exact h2 rfl
  · refine spec_in (fn := Try.f55) rfl rfl rfl (Nat.le_of_ble_eq_true rfl) (fun k0 => ?_)
    refine co_seq ?_
    refine co_region ?_
    refine op_mem rfl rfl ?_
    refine op_pure rfl rfl ?_
    refine op_nil ?_
    refine q_seq ?_
    iterate 2 refine co_seq ?_
    refine co_region ?_
    refine op_pure rfl rfl ?_
    refine op_cmp rfl rfl (by first | exact ltI_iff | exact eqI_iff | exact nlt_iff | exact neq_iff | exact dec_iff | exact bool_iff) ?_
    refine op_nil ?_
    refine q_seq ?_
    refine co_dec rfl (by first | exact ltI_iff | exact eqI_iff | exact nlt_iff | exact neq_iff | exact dec_iff | exact bool_iff) (fun h1 => ?_) (fun h1 => ?_)
    · exfalso; omega
    · refine co_skip ?_
      refine q_seq ?_
      refine co_seq ?_
      refine co_region ?_
      iterate 6 first | refine op_pure rfl rfl ?_ | refine op_mem rfl rfl ?_
      refine op_nat (i) rfl rfl (by first | rfl | omega) ⟨by omega, by omega⟩ ?_
      refine op_pure rfl (ix_sl (i := i) rfl rfl rfl rfl rfl rfl rfl hi) ?_
      refine op_mem rfl (ld_own rfl rfl rfl hw) ?_
      iterate 2 refine op_mem rfl rfl ?_
      refine op_nil ?_
      refine q_seq ?_
      iterate 2 refine co_seq ?_
      refine co_region ?_
      refine op_pure rfl rfl ?_
      refine op_mem rfl rfl ?_
      refine op_bs (by first | exact ltI_iff | exact eqI_iff | exact nlt_iff | exact neq_iff | exact dec_iff | exact bool_iff) (fun h2 => ?_) (fun h2 => ?_)
      · iterate 5 first | refine op_pure rfl rfl ?_ | refine op_mem rfl rfl ?_
        refine op_cmp rfl (bin_eql rfl rfl rfl rfl (eq_dig rfl rfl rfl rfl rfl rfl _ _ 250)) dec_iff ?_
        refine op_pure rfl rfl ?_
        refine op_nil ?_
        refine q_seq ?_
        refine co_dec rfl (by first | exact ltI_iff | exact eqI_iff | exact nlt_iff | exact neq_iff | exact dec_iff | exact bool_iff) (fun h3 => ?_) (fun h3 => ?_)
        · refine co_seq ?_
          refine co_region ?_
          refine op_pure rfl rfl ?_
          refine op_mem rfl rfl ?_
          (refine op_step rfl (step_mk 1 rfl rfl rfl rfl (by simp) (by omega) (by show 1 < 4; omega) rfl rfl (node_m ns root _ hl) ?_); rintro ns1 m ⟨rfl, rfl⟩)
          refine op_pure rfl rfl ?_
          refine op_nil ?_
          refine q_seq ?_
          refine co_ret ?_
          refine q_seqx (by intro h; cases h) ?_
          exact fin_mk 8 4 (.inr rfl) (by omega) (by show 4 < 5; omega) rfl rfl rfl rfl (gr_leaf hok hv hf)
        · exfalso; exact h3 rfl
      · exfalso; exact h2 rfl
theorem with_leaf {root : Int} {k k' : Dig} {v v' : List UInt8} {ns : List Node} {i d f : Nat} {l r : Int} {t' : T} (hx : ns[i]? = some ⟨true, k', v', l, r⟩) (hk : k' ≠ k) (hd : d < 256) (hl : ns.length + f + 1 ≤ 1000000000) (ht : t'.non = true)
    (sp : WithS G root k v ns (if bitN k d = bitN k' d then i + 1 else 0) (d + 1) (Gr ns f t')) : WithS G root k v ns (i + 1) d (Gr ns (f + 1) (if bitN k d = 0 then .fork t' (if bitN k d = bitN k' d then .nil else .leaf k' v') else .fork (if bitN k d = bitN k' d then .nil else .leaf k' v') t')) := by
  intro R
  have hi := (List.getElem?_eq_some_iff.1 hx).1
  have b1 := bitN_le k d
  have b2 := bitN_le k' d
  have hc : bitN k d = 0 ∨ bitN k d = 1 := by omega
  have hc' : bitN k' d = 0 ∨ bitN k' d = 1 := by omega
  obtain ⟨w, hw, rfl | ⟨_, rfl⟩⟩ := node_all ns hx
  · rcases hc' with hc' | hc' <;> rcases hc with hc | hc
    · skip
      rw [if_pos (hc.trans hc'.symm)] at sp
      refine spec_in (fn := Try.f55) rfl rfl rfl (Nat.le_of_ble_eq_true rfl) (fun k0 => ?_)
      refine co_seq ?_
      refine co_region ?_
      refine op_mem rfl rfl ?_
      refine op_pure rfl rfl ?_
      refine op_nil ?_
      refine q_seq ?_
      iterate 2 refine co_seq ?_
      refine co_region ?_
      refine op_pure rfl rfl ?_
      refine op_cmp rfl rfl (by first | exact ltI_iff | exact eqI_iff | exact nlt_iff | exact neq_iff | exact dec_iff | exact bool_iff) ?_
      refine op_nil ?_
      refine q_seq ?_
      refine co_dec rfl (by first | exact ltI_iff | exact eqI_iff | exact nlt_iff | exact neq_iff | exact dec_iff | exact bool_iff) (fun h1 => ?_) (fun h1 => ?_)
      · exfalso; omega
      · refine co_skip ?_
        refine q_seq ?_
        refine co_seq ?_
        refine co_region ?_
        iterate 6 first | refine op_pure rfl rfl ?_ | refine op_mem rfl rfl ?_
        refine op_nat (i) rfl rfl (by first | rfl | omega) ⟨by omega, by omega⟩ ?_
        refine op_pure rfl (ix_sl (i := i) rfl rfl rfl rfl rfl rfl rfl hi) ?_
        refine op_mem rfl (ld_own rfl rfl rfl hw) ?_
        iterate 2 refine op_mem rfl rfl ?_
        refine op_nil ?_
        refine q_seq ?_
        iterate 2 refine co_seq ?_
        refine co_region ?_
        refine op_pure rfl rfl ?_
        refine op_mem rfl rfl ?_
        refine op_bs (by first | exact ltI_iff | exact eqI_iff | exact nlt_iff | exact neq_iff | exact dec_iff | exact bool_iff) (fun h2 => ?_) (fun h2 => ?_)
        · iterate 5 first | refine op_pure rfl rfl ?_ | refine op_mem rfl rfl ?_
          refine op_cmp rfl (bin_eql rfl rfl rfl rfl (eq_dig rfl rfl rfl rfl rfl rfl _ _ 250)) dec_iff ?_
          refine op_pure rfl rfl ?_
          refine op_nil ?_
          refine q_seq ?_
          refine co_dec rfl (by first | exact ltI_iff | exact eqI_iff | exact nlt_iff | exact neq_iff | exact dec_iff | exact bool_iff) (fun h3 => ?_) (fun h3 => ?_)
          · exfalso; exact hk h3
          · refine co_skip ?_
            refine q_seq ?_
            refine co_seq ?_
            refine co_region ?_
            refine op_mem rfl rfl ?_
            refine op_nil ?_
            refine q_seq ?_
            iterate 3 first | refine co_seq ?_ | refine co_region ?_
            iterate 3 first | refine op_pure rfl rfl ?_ | refine op_mem rfl rfl ?_ | refine op_nil ?_
            refine q_seq ?_
            refine co_true rfl ?_
            refine co_region ?_
            iterate 3 first | refine op_pure rfl rfl ?_ | refine op_mem rfl rfl ?_
            (first | refine op_ps rfl rfl rfl rfl rfl rfl (tbit_c k' d 0 hd hc') (by simp) (by simp) ?_ | refine op_ps rfl rfl rfl rfl rfl rfl (tbit_c k d 0 hd hc) (by simp) (by simp) ?_)
            refine op_pure rfl rfl ?_
            first | refine op_pure rfl (ix_fz rfl rfl rfl rfl rfl rfl rfl (by first | assumption | (simp; done))) ?_ | refine op_pure rfl (ix_sl rfl rfl rfl rfl rfl rfl rfl (by omega)) ?_ | refine op_pure rfl (ix_arr rfl rfl rfl rfl rfl rfl (by omega)) ?_ | refine op_pure rfl rfl ?_
            refine op_mem rfl rfl ?_
            refine op_nil ?_
            refine q_seq ?_
            refine co_seq ?_
            refine co_region ?_
            iterate 3 first | refine op_pure rfl rfl ?_ | refine op_mem rfl rfl ?_
            (first | refine op_ps rfl rfl rfl rfl rfl rfl (tbit_c k' d 0 hd hc') (by simp) (by simp) ?_ | refine op_ps rfl rfl rfl rfl rfl rfl (tbit_c k d 0 hd hc) (by simp) (by simp) ?_)
            refine op_pure rfl rfl ?_
            refine op_nil ?_
            refine q_seq ?_
            refine co_seq ?_
            refine co_flow ?_
            iterate 2 refine fl_pure rfl rfl ?_
            first | refine fl_pure rfl (ix_fz rfl rfl rfl rfl rfl rfl rfl (by first | assumption | (simp; done))) ?_ | refine fl_pure rfl (ix_sl rfl rfl rfl rfl rfl rfl rfl (by omega)) ?_ | refine fl_pure rfl (ix_arr rfl rfl rfl rfl rfl rfl (by omega)) ?_ | refine fl_pure rfl rfl ?_
            refine fl_mem rfl rfl (by first | rfl | kernel_rfl) ?_
            refine fl_pure rfl rfl ?_
            refine fl_nat (d + 1) rfl rfl (by first | rfl | omega) ⟨by omega, by omega⟩ ?_
            refine fl_mem rfl rfl (by first | rfl | kernel_rfl) ?_
            (refine fl_step rfl (step_mk 1 rfl rfl rfl rfl (by simp) (by omega) (by show 1 < 5; omega) rfl rfl sp ?_); rintro ns1 m ⟨⟨ms, rfl, hms⟩, hok1, hm⟩; refine ⟨by first | rfl | kernel_rfl, ?_⟩)
            refine fl_pure rfl rfl ?_
            refine fl_nil ?_
            refine q_seq ?_
            refine co_seq ?_
            refine co_region ?_
            iterate 2 refine op_pure rfl rfl ?_
            first | refine op_pure rfl (ix_fz rfl rfl rfl rfl rfl rfl rfl (by first | assumption | (simp; done))) ?_ | refine op_pure rfl (ix_sl rfl rfl rfl rfl rfl rfl rfl (by omega)) ?_ | refine op_pure rfl (ix_arr rfl rfl rfl rfl rfl rfl (by omega)) ?_ | refine op_pure rfl rfl ?_
            refine op_mem rfl rfl ?_
            refine op_nil ?_
            refine q_seq ?_
            refine co_seq ?_
            refine co_region ?_
            refine op_pure rfl rfl ?_
            refine op_mem rfl rfl ?_
            first | refine op_ps rfl rfl rfl rfl rfl rfl (fork_s _ _) (by first | rfl | assumption | (simp; done)) (by first | rfl | assumption | (simp; done)) ?_ | refine op_ps rfl rfl rfl rfl rfl rfl (fork_s _ _) (by first | rfl | assumption | (simp; done)) (by first | rfl | assumption | (simp; done)) ?_
            (refine op_step rfl (step_mk 5 rfl rfl rfl rfl (by simp) (by omega) (by show 5 < 6; omega) rfl rfl (node_m _ root _ (by simp only [List.length_append]; omega)) ?_); rintro ns2 m2 ⟨rfl, rfl⟩)
            refine op_pure rfl rfl ?_
            refine op_nil ?_
            refine q_seq ?_
            refine co_ret ?_
            have hm0 : 0 < m := by have := hm.non; rw [ht] at this; simpa using this.symm
            exact fin_mk 8 6 (.inr rfl) (by omega) (by show 6 < 7; omega) rfl rfl rfl rfl (by rw [if_pos hc, if_pos (hc.trans hc'.symm)]; exact gr_fork hms hok1 hm (.nil) (by omega))
        · exfalso; exact h2 rfl
    · skip
      rw [if_neg (by omega)] at sp
      refine spec_in (fn := Try.f55) rfl rfl rfl (Nat.le_of_ble_eq_true rfl) (fun k0 => ?_)
      refine co_seq ?_
      refine co_region ?_
      refine op_mem rfl rfl ?_
      refine op_pure rfl rfl ?_
      refine op_nil ?_
      refine q_seq ?_
      iterate 2 refine co_seq ?_
      refine co_region ?_
      refine op_pure rfl rfl ?_
      refine op_cmp rfl rfl (by first | exact ltI_iff | exact eqI_iff | exact nlt_iff | exact neq_iff | exact dec_iff | exact bool_iff) ?_
      refine op_nil ?_
      refine q_seq ?_
      refine co_dec rfl (by first | exact ltI_iff | exact eqI_iff | exact nlt_iff | exact neq_iff | exact dec_iff | exact bool_iff) (fun h1 => ?_) (fun h1 => ?_)
      · exfalso; omega
      · refine co_skip ?_
        refine q_seq ?_
        refine co_seq ?_
        refine co_region ?_
        iterate 6 first | refine op_pure rfl rfl ?_ | refine op_mem rfl rfl ?_
        refine op_nat (i) rfl rfl (by first | rfl | omega) ⟨by omega, by omega⟩ ?_
        refine op_pure rfl (ix_sl (i := i) rfl rfl rfl rfl rfl rfl rfl hi) ?_
        refine op_mem rfl (ld_own rfl rfl rfl hw) ?_
        iterate 2 refine op_mem rfl rfl ?_
        refine op_nil ?_
        refine q_seq ?_
        iterate 2 refine co_seq ?_
        refine co_region ?_
        refine op_pure rfl rfl ?_
        refine op_mem rfl rfl ?_
        refine op_bs (by first | exact ltI_iff | exact eqI_iff | exact nlt_iff | exact neq_iff | exact dec_iff | exact bool_iff) (fun h2 => ?_) (fun h2 => ?_)
        · iterate 5 first | refine op_pure rfl rfl ?_ | refine op_mem rfl rfl ?_
          refine op_cmp rfl (bin_eql rfl rfl rfl rfl (eq_dig rfl rfl rfl rfl rfl rfl _ _ 250)) dec_iff ?_
          refine op_pure rfl rfl ?_
          refine op_nil ?_
          refine q_seq ?_
          refine co_dec rfl (by first | exact ltI_iff | exact eqI_iff | exact nlt_iff | exact neq_iff | exact dec_iff | exact bool_iff) (fun h3 => ?_) (fun h3 => ?_)
          · exfalso; exact hk h3
          · refine co_skip ?_
            refine q_seq ?_
            refine co_seq ?_
            refine co_region ?_
            refine op_mem rfl rfl ?_
            refine op_nil ?_
            refine q_seq ?_
            iterate 3 first | refine co_seq ?_ | refine co_region ?_
            iterate 3 first | refine op_pure rfl rfl ?_ | refine op_mem rfl rfl ?_ | refine op_nil ?_
            refine q_seq ?_
            refine co_true rfl ?_
            refine co_region ?_
            iterate 3 first | refine op_pure rfl rfl ?_ | refine op_mem rfl rfl ?_
            (first | refine op_ps rfl rfl rfl rfl rfl rfl (tbit_c k' d 0 hd hc') (by simp) (by simp) ?_ | refine op_ps rfl rfl rfl rfl rfl rfl (tbit_c k d 1 hd hc) (by simp) (by simp) ?_)
            refine op_pure rfl rfl ?_
            first | refine op_pure rfl (ix_fz rfl rfl rfl rfl rfl rfl rfl (by first | assumption | (simp; done))) ?_ | refine op_pure rfl (ix_sl rfl rfl rfl rfl rfl rfl rfl (by omega)) ?_ | refine op_pure rfl (ix_arr rfl rfl rfl rfl rfl rfl (by omega)) ?_ | refine op_pure rfl rfl ?_
            refine op_mem rfl rfl ?_
            refine op_nil ?_
            refine q_seq ?_
            refine co_seq ?_
            refine co_region ?_
            iterate 3 first | refine op_pure rfl rfl ?_ | refine op_mem rfl rfl ?_
            (first | refine op_ps rfl rfl rfl rfl rfl rfl (tbit_c k' d 0 hd hc') (by simp) (by simp) ?_ | refine op_ps rfl rfl rfl rfl rfl rfl (tbit_c k d 1 hd hc) (by simp) (by simp) ?_)
            refine op_pure rfl rfl ?_
            refine op_nil ?_
            refine q_seq ?_
            refine co_seq ?_
            refine co_flow ?_
            iterate 2 refine fl_pure rfl rfl ?_
            first | refine fl_pure rfl (ix_fz rfl rfl rfl rfl rfl rfl rfl (by first | assumption | (simp; done))) ?_ | refine fl_pure rfl (ix_sl rfl rfl rfl rfl rfl rfl rfl (by omega)) ?_ | refine fl_pure rfl (ix_arr rfl rfl rfl rfl rfl rfl (by omega)) ?_ | refine fl_pure rfl rfl ?_
            refine fl_mem rfl rfl (by first | rfl | kernel_rfl) ?_
            refine fl_pure rfl rfl ?_
            refine fl_nat (d + 1) rfl rfl (by first | rfl | omega) ⟨by omega, by omega⟩ ?_
            refine fl_mem rfl rfl (by first | rfl | kernel_rfl) ?_
            (refine fl_step rfl (step_mk 1 rfl rfl rfl rfl (by simp) (by omega) (by show 1 < 5; omega) rfl rfl sp ?_); rintro ns1 m ⟨⟨ms, rfl, hms⟩, hok1, hm⟩; refine ⟨by first | rfl | kernel_rfl, ?_⟩)
            refine fl_pure rfl rfl ?_
            refine fl_nil ?_
            refine q_seq ?_
            refine co_seq ?_
            refine co_region ?_
            iterate 2 refine op_pure rfl rfl ?_
            first | refine op_pure rfl (ix_fz rfl rfl rfl rfl rfl rfl rfl (by first | assumption | (simp; done))) ?_ | refine op_pure rfl (ix_sl rfl rfl rfl rfl rfl rfl rfl (by omega)) ?_ | refine op_pure rfl (ix_arr rfl rfl rfl rfl rfl rfl (by omega)) ?_ | refine op_pure rfl rfl ?_
            refine op_mem rfl rfl ?_
            refine op_nil ?_
            refine q_seq ?_
            refine co_seq ?_
            refine co_region ?_
            refine op_pure rfl rfl ?_
            refine op_mem rfl rfl ?_
            first | refine op_ps rfl rfl rfl rfl rfl rfl (fork_s _ _) (by first | rfl | assumption | (simp; done)) (by first | rfl | assumption | (simp; done)) ?_ | refine op_ps rfl rfl rfl rfl rfl rfl (fork_s _ _) (by first | rfl | assumption | (simp; done)) (by first | rfl | assumption | (simp; done)) ?_
            (refine op_step rfl (step_mk 5 rfl rfl rfl rfl (by simp) (by omega) (by show 5 < 6; omega) rfl rfl (node_m _ root _ (by simp only [List.length_append]; omega)) ?_); rintro ns2 m2 ⟨rfl, rfl⟩)
            refine op_pure rfl rfl ?_
            refine op_nil ?_
            refine q_seq ?_
            refine co_ret ?_
            have hm0 : 0 < m := by have := hm.non; rw [ht] at this; simpa using this.symm
            exact fin_mk 8 6 (.inr rfl) (by omega) (by show 6 < 7; omega) rfl rfl rfl rfl (by rw [if_neg (by omega), if_neg (by omega)]; exact gr_fork hms hok1 ((Rep.leaf hx).app _) hm (by omega))
        · exfalso; exact h2 rfl
    · skip
      rw [if_neg (by omega)] at sp
      refine spec_in (fn := Try.f55) rfl rfl rfl (Nat.le_of_ble_eq_true rfl) (fun k0 => ?_)
      refine co_seq ?_
      refine co_region ?_
      refine op_mem rfl rfl ?_
      refine op_pure rfl rfl ?_
      refine op_nil ?_
      refine q_seq ?_
      iterate 2 refine co_seq ?_
      refine co_region ?_
      refine op_pure rfl rfl ?_
      refine op_cmp rfl rfl (by first | exact ltI_iff | exact eqI_iff | exact nlt_iff | exact neq_iff | exact dec_iff | exact bool_iff) ?_
      refine op_nil ?_
      refine q_seq ?_
      refine co_dec rfl (by first | exact ltI_iff | exact eqI_iff | exact nlt_iff | exact neq_iff | exact dec_iff | exact bool_iff) (fun h1 => ?_) (fun h1 => ?_)
      · exfalso; omega
      · refine co_skip ?_
        refine q_seq ?_
        refine co_seq ?_
        refine co_region ?_
        iterate 6 first | refine op_pure rfl rfl ?_ | refine op_mem rfl rfl ?_
        refine op_nat (i) rfl rfl (by first | rfl | omega) ⟨by omega, by omega⟩ ?_
        refine op_pure rfl (ix_sl (i := i) rfl rfl rfl rfl rfl rfl rfl hi) ?_
        refine op_mem rfl (ld_own rfl rfl rfl hw) ?_
        iterate 2 refine op_mem rfl rfl ?_
        refine op_nil ?_
        refine q_seq ?_
        iterate 2 refine co_seq ?_
        refine co_region ?_
        refine op_pure rfl rfl ?_
        refine op_mem rfl rfl ?_
        refine op_bs (by first | exact ltI_iff | exact eqI_iff | exact nlt_iff | exact neq_iff | exact dec_iff | exact bool_iff) (fun h2 => ?_) (fun h2 => ?_)
        · iterate 5 first | refine op_pure rfl rfl ?_ | refine op_mem rfl rfl ?_
          refine op_cmp rfl (bin_eql rfl rfl rfl rfl (eq_dig rfl rfl rfl rfl rfl rfl _ _ 250)) dec_iff ?_
          refine op_pure rfl rfl ?_
          refine op_nil ?_
          refine q_seq ?_
          refine co_dec rfl (by first | exact ltI_iff | exact eqI_iff | exact nlt_iff | exact neq_iff | exact dec_iff | exact bool_iff) (fun h3 => ?_) (fun h3 => ?_)
          · exfalso; exact hk h3
          · refine co_skip ?_
            refine q_seq ?_
            refine co_seq ?_
            refine co_region ?_
            refine op_mem rfl rfl ?_
            refine op_nil ?_
            refine q_seq ?_
            iterate 3 first | refine co_seq ?_ | refine co_region ?_
            iterate 3 first | refine op_pure rfl rfl ?_ | refine op_mem rfl rfl ?_ | refine op_nil ?_
            refine q_seq ?_
            refine co_true rfl ?_
            refine co_region ?_
            iterate 3 first | refine op_pure rfl rfl ?_ | refine op_mem rfl rfl ?_
            (first | refine op_ps rfl rfl rfl rfl rfl rfl (tbit_c k' d 1 hd hc') (by simp) (by simp) ?_ | refine op_ps rfl rfl rfl rfl rfl rfl (tbit_c k d 0 hd hc) (by simp) (by simp) ?_)
            refine op_pure rfl rfl ?_
            first | refine op_pure rfl (ix_fz rfl rfl rfl rfl rfl rfl rfl (by first | assumption | (simp; done))) ?_ | refine op_pure rfl (ix_sl rfl rfl rfl rfl rfl rfl rfl (by omega)) ?_ | refine op_pure rfl (ix_arr rfl rfl rfl rfl rfl rfl (by omega)) ?_ | refine op_pure rfl rfl ?_
            refine op_mem rfl rfl ?_
            refine op_nil ?_
            refine q_seq ?_
            refine co_seq ?_
            refine co_region ?_
            iterate 3 first | refine op_pure rfl rfl ?_ | refine op_mem rfl rfl ?_
            (first | refine op_ps rfl rfl rfl rfl rfl rfl (tbit_c k' d 1 hd hc') (by simp) (by simp) ?_ | refine op_ps rfl rfl rfl rfl rfl rfl (tbit_c k d 0 hd hc) (by simp) (by simp) ?_)
            refine op_pure rfl rfl ?_
            refine op_nil ?_
            refine q_seq ?_
            refine co_seq ?_
            refine co_flow ?_
            iterate 2 refine fl_pure rfl rfl ?_
            first | refine fl_pure rfl (ix_fz rfl rfl rfl rfl rfl rfl rfl (by first | assumption | (simp; done))) ?_ | refine fl_pure rfl (ix_sl rfl rfl rfl rfl rfl rfl rfl (by omega)) ?_ | refine fl_pure rfl (ix_arr rfl rfl rfl rfl rfl rfl (by omega)) ?_ | refine fl_pure rfl rfl ?_
            refine fl_mem rfl rfl (by first | rfl | kernel_rfl) ?_
            refine fl_pure rfl rfl ?_
            refine fl_nat (d + 1) rfl rfl (by first | rfl | omega) ⟨by omega, by omega⟩ ?_
            refine fl_mem rfl rfl (by first | rfl | kernel_rfl) ?_
            (refine fl_step rfl (step_mk 1 rfl rfl rfl rfl (by simp) (by omega) (by show 1 < 5; omega) rfl rfl sp ?_); rintro ns1 m ⟨⟨ms, rfl, hms⟩, hok1, hm⟩; refine ⟨by first | rfl | kernel_rfl, ?_⟩)
            refine fl_pure rfl rfl ?_
            refine fl_nil ?_
            refine q_seq ?_
            refine co_seq ?_
            refine co_region ?_
            iterate 2 refine op_pure rfl rfl ?_
            first | refine op_pure rfl (ix_fz rfl rfl rfl rfl rfl rfl rfl (by first | assumption | (simp; done))) ?_ | refine op_pure rfl (ix_sl rfl rfl rfl rfl rfl rfl rfl (by omega)) ?_ | refine op_pure rfl (ix_arr rfl rfl rfl rfl rfl rfl (by omega)) ?_ | refine op_pure rfl rfl ?_
            refine op_mem rfl rfl ?_
            refine op_nil ?_
            refine q_seq ?_
            refine co_seq ?_
            refine co_region ?_
            refine op_pure rfl rfl ?_
            refine op_mem rfl rfl ?_
            first | refine op_ps rfl rfl rfl rfl rfl rfl (fork_s _ _) (by first | rfl | assumption | (simp; done)) (by first | rfl | assumption | (simp; done)) ?_ | refine op_ps rfl rfl rfl rfl rfl rfl (fork_s _ _) (by first | rfl | assumption | (simp; done)) (by first | rfl | assumption | (simp; done)) ?_
            (refine op_step rfl (step_mk 5 rfl rfl rfl rfl (by simp) (by omega) (by show 5 < 6; omega) rfl rfl (node_m _ root _ (by simp only [List.length_append]; omega)) ?_); rintro ns2 m2 ⟨rfl, rfl⟩)
            refine op_pure rfl rfl ?_
            refine op_nil ?_
            refine q_seq ?_
            refine co_ret ?_
            have hm0 : 0 < m := by have := hm.non; rw [ht] at this; simpa using this.symm
            exact fin_mk 8 6 (.inr rfl) (by omega) (by show 6 < 7; omega) rfl rfl rfl rfl (by rw [if_pos hc, if_neg (by omega)]; exact gr_fork hms hok1 hm ((Rep.leaf hx).app _) (by omega))
        · exfalso; exact h2 rfl
    · skip
      rw [if_pos (hc.trans hc'.symm)] at sp
      refine spec_in (fn := Try.f55) rfl rfl rfl (Nat.le_of_ble_eq_true rfl) (fun k0 => ?_)
      refine co_seq ?_
      refine co_region ?_
      refine op_mem rfl rfl ?_
      refine op_pure rfl rfl ?_
      refine op_nil ?_
      refine q_seq ?_
      iterate 2 refine co_seq ?_
      refine co_region ?_
      refine op_pure rfl rfl ?_
      refine op_cmp rfl rfl (by first | exact ltI_iff | exact eqI_iff | exact nlt_iff | exact neq_iff | exact dec_iff | exact bool_iff) ?_
      refine op_nil ?_
      refine q_seq ?_
      refine co_dec rfl (by first | exact ltI_iff | exact eqI_iff | exact nlt_iff | exact neq_iff | exact dec_iff | exact bool_iff) (fun h1 => ?_) (fun h1 => ?_)
      · exfalso; omega
      · refine co_skip ?_
        refine q_seq ?_
        refine co_seq ?_
        refine co_region ?_
        iterate 6 first | refine op_pure rfl rfl ?_ | refine op_mem rfl rfl ?_
        refine op_nat (i) rfl rfl (by first | rfl | omega) ⟨by omega, by omega⟩ ?_
        refine op_pure rfl (ix_sl (i := i) rfl rfl rfl rfl rfl rfl rfl hi) ?_
        refine op_mem rfl (ld_own rfl rfl rfl hw) ?_
        iterate 2 refine op_mem rfl rfl ?_
        refine op_nil ?_
        refine q_seq ?_
        iterate 2 refine co_seq ?_
        refine co_region ?_
        refine op_pure rfl rfl ?_
        refine op_mem rfl rfl ?_
        refine op_bs (by first | exact ltI_iff | exact eqI_iff | exact nlt_iff | exact neq_iff | exact dec_iff | exact bool_iff) (fun h2 => ?_) (fun h2 => ?_)
        · iterate 5 first | refine op_pure rfl rfl ?_ | refine op_mem rfl rfl ?_
          refine op_cmp rfl (bin_eql rfl rfl rfl rfl (eq_dig rfl rfl rfl rfl rfl rfl _ _ 250)) dec_iff ?_
          refine op_pure rfl rfl ?_
          refine op_nil ?_
          refine q_seq ?_
          refine co_dec rfl (by first | exact ltI_iff | exact eqI_iff | exact nlt_iff | exact neq_iff | exact dec_iff | exact bool_iff) (fun h3 => ?_) (fun h3 => ?_)
          · exfalso; exact hk h3
          · refine co_skip ?_
            refine q_seq ?_
            refine co_seq ?_
            refine co_region ?_
            refine op_mem rfl rfl ?_
            refine op_nil ?_
            refine q_seq ?_
            iterate 3 first | refine co_seq ?_ | refine co_region ?_
            iterate 3 first | refine op_pure rfl rfl ?_ | refine op_mem rfl rfl ?_ | refine op_nil ?_
            refine q_seq ?_
            refine co_true rfl ?_
            refine co_region ?_
            iterate 3 first | refine op_pure rfl rfl ?_ | refine op_mem rfl rfl ?_
            (first | refine op_ps rfl rfl rfl rfl rfl rfl (tbit_c k' d 1 hd hc') (by simp) (by simp) ?_ | refine op_ps rfl rfl rfl rfl rfl rfl (tbit_c k d 1 hd hc) (by simp) (by simp) ?_)
            refine op_pure rfl rfl ?_
            first | refine op_pure rfl (ix_fz rfl rfl rfl rfl rfl rfl rfl (by first | assumption | (simp; done))) ?_ | refine op_pure rfl (ix_sl rfl rfl rfl rfl rfl rfl rfl (by omega)) ?_ | refine op_pure rfl (ix_arr rfl rfl rfl rfl rfl rfl (by omega)) ?_ | refine op_pure rfl rfl ?_
            refine op_mem rfl rfl ?_
            refine op_nil ?_
            refine q_seq ?_
            refine co_seq ?_
            refine co_region ?_
            iterate 3 first | refine op_pure rfl rfl ?_ | refine op_mem rfl rfl ?_
            (first | refine op_ps rfl rfl rfl rfl rfl rfl (tbit_c k' d 1 hd hc') (by simp) (by simp) ?_ | refine op_ps rfl rfl rfl rfl rfl rfl (tbit_c k d 1 hd hc) (by simp) (by simp) ?_)
            refine op_pure rfl rfl ?_
            refine op_nil ?_
            refine q_seq ?_
            refine co_seq ?_
            refine co_flow ?_
            iterate 2 refine fl_pure rfl rfl ?_
            first | refine fl_pure rfl (ix_fz rfl rfl rfl rfl rfl rfl rfl (by first | assumption | (simp; done))) ?_ | refine fl_pure rfl (ix_sl rfl rfl rfl rfl rfl rfl rfl (by omega)) ?_ | refine fl_pure rfl (ix_arr rfl rfl rfl rfl rfl rfl (by omega)) ?_ | refine fl_pure rfl rfl ?_
            refine fl_mem rfl rfl (by first | rfl | kernel_rfl) ?_
            refine fl_pure rfl rfl ?_
            refine fl_nat (d + 1) rfl rfl (by first | rfl | omega) ⟨by omega, by omega⟩ ?_
            refine fl_mem rfl rfl (by first | rfl | kernel_rfl) ?_
            (refine fl_step rfl (step_mk 1 rfl rfl rfl rfl (by simp) (by omega) (by show 1 < 5; omega) rfl rfl sp ?_); rintro ns1 m ⟨⟨ms, rfl, hms⟩, hok1, hm⟩; refine ⟨by first | rfl | kernel_rfl, ?_⟩)
            refine fl_pure rfl rfl ?_
            refine fl_nil ?_
            refine q_seq ?_
            refine co_seq ?_
            refine co_region ?_
            iterate 2 refine op_pure rfl rfl ?_
            first | refine op_pure rfl (ix_fz rfl rfl rfl rfl rfl rfl rfl (by first | assumption | (simp; done))) ?_ | refine op_pure rfl (ix_sl rfl rfl rfl rfl rfl rfl rfl (by omega)) ?_ | refine op_pure rfl (ix_arr rfl rfl rfl rfl rfl rfl (by omega)) ?_ | refine op_pure rfl rfl ?_
            refine op_mem rfl rfl ?_
            refine op_nil ?_
            refine q_seq ?_
            refine co_seq ?_
            refine co_region ?_
            refine op_pure rfl rfl ?_
            refine op_mem rfl rfl ?_
            first | refine op_ps rfl rfl rfl rfl rfl rfl (fork_s _ _) (by first | rfl | assumption | (simp; done)) (by first | rfl | assumption | (simp; done)) ?_ | refine op_ps rfl rfl rfl rfl rfl rfl (fork_s _ _) (by first | rfl | assumption | (simp; done)) (by first | rfl | assumption | (simp; done)) ?_
            (refine op_step rfl (step_mk 5 rfl rfl rfl rfl (by simp) (by omega) (by show 5 < 6; omega) rfl rfl (node_m _ root _ (by simp only [List.length_append]; omega)) ?_); rintro ns2 m2 ⟨rfl, rfl⟩)
            refine op_pure rfl rfl ?_
            refine op_nil ?_
            refine q_seq ?_
            refine co_ret ?_
            have hm0 : 0 < m := by have := hm.non; rw [ht] at this; simpa using this.symm
            exact fin_mk 8 6 (.inr rfl) (by omega) (by show 6 < 7; omega) rfl rfl rfl rfl (by rw [if_neg (by omega), if_pos (hc.trans hc'.symm)]; exact gr_fork hms hok1 (.nil) hm (by omega))
        · exfalso; exact h2 rfl
  · rcases hc' with hc' | hc' <;> rcases hc with hc | hc
    · skip
      rw [if_pos (hc.trans hc'.symm)] at sp
      refine spec_in (fn := Try.f55) rfl rfl rfl (Nat.le_of_ble_eq_true rfl) (fun k0 => ?_)
      refine co_seq ?_
      refine co_region ?_
      refine op_mem rfl rfl ?_
      refine op_pure rfl rfl ?_
      refine op_nil ?_
      refine q_seq ?_
      iterate 2 refine co_seq ?_
      refine co_region ?_
      refine op_pure rfl rfl ?_
      refine op_cmp rfl rfl (by first | exact ltI_iff | exact eqI_iff | exact nlt_iff | exact neq_iff | exact dec_iff | exact bool_iff) ?_
      refine op_nil ?_
      refine q_seq ?_
      refine co_dec rfl (by first | exact ltI_iff | exact eqI_iff | exact nlt_iff | exact neq_iff | exact dec_iff | exact bool_iff) (fun h1 => ?_) (fun h1 => ?_)
      · exfalso; omega
      · refine co_skip ?_
        refine q_seq ?_
        refine co_seq ?_
        refine co_region ?_
        iterate 6 first | refine op_pure rfl rfl ?_ | refine op_mem rfl rfl ?_
        refine op_nat (i) rfl rfl (by first | rfl | omega) ⟨by omega, by omega⟩ ?_
        refine op_pure rfl (ix_sl (i := i) rfl rfl rfl rfl rfl rfl rfl hi) ?_
        refine op_mem rfl (ld_own rfl rfl rfl hw) ?_
        iterate 2 refine op_mem rfl rfl ?_
        refine op_nil ?_
        refine q_seq ?_
        iterate 2 refine co_seq ?_
        refine co_region ?_
        refine op_pure rfl rfl ?_
        refine op_mem rfl rfl ?_
        refine op_bs (by first | exact ltI_iff | exact eqI_iff | exact nlt_iff | exact neq_iff | exact dec_iff | exact bool_iff) (fun h2 => ?_) (fun h2 => ?_)
        · iterate 5 first | refine op_pure rfl rfl ?_ | refine op_mem rfl rfl ?_
          refine op_cmp rfl (bin_eql rfl rfl rfl rfl (eq_dig rfl rfl rfl rfl rfl rfl _ _ 250)) dec_iff ?_
          refine op_pure rfl rfl ?_
          refine op_nil ?_
          refine q_seq ?_
          refine co_dec rfl (by first | exact ltI_iff | exact eqI_iff | exact nlt_iff | exact neq_iff | exact dec_iff | exact bool_iff) (fun h3 => ?_) (fun h3 => ?_)
          · exfalso; exact hk h3
          · refine co_skip ?_
            refine q_seq ?_
            refine co_seq ?_
            refine co_region ?_
            refine op_mem rfl rfl ?_
            refine op_nil ?_
            refine q_seq ?_
            iterate 3 first | refine co_seq ?_ | refine co_region ?_
            iterate 3 first | refine op_pure rfl rfl ?_ | refine op_mem rfl rfl ?_ | refine op_nil ?_
            refine q_seq ?_
            refine co_true rfl ?_
            refine co_region ?_
            iterate 3 first | refine op_pure rfl rfl ?_ | refine op_mem rfl rfl ?_
            (first | refine op_ps rfl rfl rfl rfl rfl rfl (tbit_c k' d 0 hd hc') (by simp) (by simp) ?_ | refine op_ps rfl rfl rfl rfl rfl rfl (tbit_c k d 0 hd hc) (by simp) (by simp) ?_)
            refine op_pure rfl rfl ?_
            first | refine op_pure rfl (ix_fz rfl rfl rfl rfl rfl rfl rfl (by first | assumption | (simp; done))) ?_ | refine op_pure rfl (ix_sl rfl rfl rfl rfl rfl rfl rfl (by omega)) ?_ | refine op_pure rfl (ix_arr rfl rfl rfl rfl rfl rfl (by omega)) ?_ | refine op_pure rfl rfl ?_
            refine op_mem rfl rfl ?_
            refine op_nil ?_
            refine q_seq ?_
            refine co_seq ?_
            refine co_region ?_
            iterate 3 first | refine op_pure rfl rfl ?_ | refine op_mem rfl rfl ?_
            (first | refine op_ps rfl rfl rfl rfl rfl rfl (tbit_c k' d 0 hd hc') (by simp) (by simp) ?_ | refine op_ps rfl rfl rfl rfl rfl rfl (tbit_c k d 0 hd hc) (by simp) (by simp) ?_)
            refine op_pure rfl rfl ?_
            refine op_nil ?_
            refine q_seq ?_
            refine co_seq ?_
            refine co_flow ?_
            iterate 2 refine fl_pure rfl rfl ?_
            first | refine fl_pure rfl (ix_fz rfl rfl rfl rfl rfl rfl rfl (by first | assumption | (simp; done))) ?_ | refine fl_pure rfl (ix_sl rfl rfl rfl rfl rfl rfl rfl (by omega)) ?_ | refine fl_pure rfl (ix_arr rfl rfl rfl rfl rfl rfl (by omega)) ?_ | refine fl_pure rfl rfl ?_
            refine fl_mem rfl rfl (by first | rfl | kernel_rfl) ?_
            refine fl_pure rfl rfl ?_
            refine fl_nat (d + 1) rfl rfl (by first | rfl | omega) ⟨by omega, by omega⟩ ?_
            refine fl_mem rfl rfl (by first | rfl | kernel_rfl) ?_
            (refine fl_step rfl (step_mk 1 rfl rfl rfl rfl (by simp) (by omega) (by show 1 < 5; omega) rfl rfl sp ?_); rintro ns1 m ⟨⟨ms, rfl, hms⟩, hok1, hm⟩; refine ⟨by first | rfl | kernel_rfl, ?_⟩)
            refine fl_pure rfl rfl ?_
            refine fl_nil ?_
            refine q_seq ?_
            refine co_seq ?_
            refine co_region ?_
            iterate 2 refine op_pure rfl rfl ?_
            first | refine op_pure rfl (ix_fz rfl rfl rfl rfl rfl rfl rfl (by first | assumption | (simp; done))) ?_ | refine op_pure rfl (ix_sl rfl rfl rfl rfl rfl rfl rfl (by omega)) ?_ | refine op_pure rfl (ix_arr rfl rfl rfl rfl rfl rfl (by omega)) ?_ | refine op_pure rfl rfl ?_
            refine op_mem rfl rfl ?_
            refine op_nil ?_
            refine q_seq ?_
            refine co_seq ?_
            refine co_region ?_
            refine op_pure rfl rfl ?_
            refine op_mem rfl rfl ?_
            first | refine op_ps rfl rfl rfl rfl rfl rfl (fork_s _ _) (by first | rfl | assumption | (simp; done)) (by first | rfl | assumption | (simp; done)) ?_ | refine op_ps rfl rfl rfl rfl rfl rfl (fork_s _ _) (by first | rfl | assumption | (simp; done)) (by first | rfl | assumption | (simp; done)) ?_
            (refine op_step rfl (step_mk 5 rfl rfl rfl rfl (by simp) (by omega) (by show 5 < 6; omega) rfl rfl (node_m _ root _ (by simp only [List.length_append]; omega)) ?_); rintro ns2 m2 ⟨rfl, rfl⟩)
            refine op_pure rfl rfl ?_
            refine op_nil ?_
            refine q_seq ?_
            refine co_ret ?_
            have hm0 : 0 < m := by have := hm.non; rw [ht] at this; simpa using this.symm
            exact fin_mk 8 6 (.inr rfl) (by omega) (by show 6 < 7; omega) rfl rfl rfl rfl (by rw [if_pos hc, if_pos (hc.trans hc'.symm)]; exact gr_fork hms hok1 hm (.nil) (by omega))
        · exfalso; exact h2 rfl
    · skip
      rw [if_neg (by omega)] at sp
      refine spec_in (fn := Try.f55) rfl rfl rfl (Nat.le_of_ble_eq_true rfl) (fun k0 => ?_)
      refine co_seq ?_
      refine co_region ?_
      refine op_mem rfl rfl ?_
      refine op_pure rfl rfl ?_
      refine op_nil ?_
      refine q_seq ?_
      iterate 2 refine co_seq ?_
      refine co_region ?_
      refine op_pure rfl rfl ?_
      refine op_cmp rfl rfl (by first | exact ltI_iff | exact eqI_iff | exact nlt_iff | exact neq_iff | exact dec_iff | exact bool_iff) ?_
      refine op_nil ?_
      refine q_seq ?_
      refine co_dec rfl (by first | exact ltI_iff | exact eqI_iff | exact nlt_iff | exact neq_iff | exact dec_iff | exact bool_iff) (fun h1 => ?_) (fun h1 => ?_)
      · exfalso; omega
      · refine co_skip ?_
        refine q_seq ?_
        refine co_seq ?_
        refine co_region ?_
        iterate 6 first | refine op_pure rfl rfl ?_ | refine op_mem rfl rfl ?_
        refine op_nat (i) rfl rfl (by first | rfl | omega) ⟨by omega, by omega⟩ ?_
        refine op_pure rfl (ix_sl (i := i) rfl rfl rfl rfl rfl rfl rfl hi) ?_
        refine op_mem rfl (ld_own rfl rfl rfl hw) ?_
        iterate 2 refine op_mem rfl rfl ?_
        refine op_nil ?_
        refine q_seq ?_
        iterate 2 refine co_seq ?_
        refine co_region ?_
        refine op_pure rfl rfl ?_
        refine op_mem rfl rfl ?_
        refine op_bs (by first | exact ltI_iff | exact eqI_iff | exact nlt_iff | exact neq_iff | exact dec_iff | exact bool_iff) (fun h2 => ?_) (fun h2 => ?_)
        · iterate 5 first | refine op_pure rfl rfl ?_ | refine op_mem rfl rfl ?_
          refine op_cmp rfl (bin_eql rfl rfl rfl rfl (eq_dig rfl rfl rfl rfl rfl rfl _ _ 250)) dec_iff ?_
          refine op_pure rfl rfl ?_
          refine op_nil ?_
          refine q_seq ?_
          refine co_dec rfl (by first | exact ltI_iff | exact eqI_iff | exact nlt_iff | exact neq_iff | exact dec_iff | exact bool_iff) (fun h3 => ?_) (fun h3 => ?_)
          · exfalso; exact hk h3
          · refine co_skip ?_
            refine q_seq ?_
            refine co_seq ?_
            refine co_region ?_
            refine op_mem rfl rfl ?_
            refine op_nil ?_
            refine q_seq ?_
            iterate 3 first | refine co_seq ?_ | refine co_region ?_
            iterate 3 first | refine op_pure rfl rfl ?_ | refine op_mem rfl rfl ?_ | refine op_nil ?_
            refine q_seq ?_
            refine co_true rfl ?_
            refine co_region ?_
            iterate 3 first | refine op_pure rfl rfl ?_ | refine op_mem rfl rfl ?_
            (first | refine op_ps rfl rfl rfl rfl rfl rfl (tbit_c k' d 0 hd hc') (by simp) (by simp) ?_ | refine op_ps rfl rfl rfl rfl rfl rfl (tbit_c k d 1 hd hc) (by simp) (by simp) ?_)
            refine op_pure rfl rfl ?_
            first | refine op_pure rfl (ix_fz rfl rfl rfl rfl rfl rfl rfl (by first | assumption | (simp; done))) ?_ | refine op_pure rfl (ix_sl rfl rfl rfl rfl rfl rfl rfl (by omega)) ?_ | refine op_pure rfl (ix_arr rfl rfl rfl rfl rfl rfl (by omega)) ?_ | refine op_pure rfl rfl ?_
            refine op_mem rfl rfl ?_
            refine op_nil ?_
            refine q_seq ?_
            refine co_seq ?_
            refine co_region ?_
            iterate 3 first | refine op_pure rfl rfl ?_ | refine op_mem rfl rfl ?_
            (first | refine op_ps rfl rfl rfl rfl rfl rfl (tbit_c k' d 0 hd hc') (by simp) (by simp) ?_ | refine op_ps rfl rfl rfl rfl rfl rfl (tbit_c k d 1 hd hc) (by simp) (by simp) ?_)
            refine op_pure rfl rfl ?_
            refine op_nil ?_
            refine q_seq ?_
            refine co_seq ?_
            refine co_flow ?_
            iterate 2 refine fl_pure rfl rfl ?_
            first | refine fl_pure rfl (ix_fz rfl rfl rfl rfl rfl rfl rfl (by first | assumption | (simp; done))) ?_ | refine fl_pure rfl (ix_sl rfl rfl rfl rfl rfl rfl rfl (by omega)) ?_ | refine fl_pure rfl (ix_arr rfl rfl rfl rfl rfl rfl (by omega)) ?_ | refine fl_pure rfl rfl ?_
            refine fl_mem rfl rfl (by first | rfl | kernel_rfl) ?_
            refine fl_pure rfl rfl ?_
            refine fl_nat (d + 1) rfl rfl (by first | rfl | omega) ⟨by omega, by omega⟩ ?_
            refine fl_mem rfl rfl (by first | rfl | kernel_rfl) ?_
            (refine fl_step rfl (step_mk 1 rfl rfl rfl rfl (by simp) (by omega) (by show 1 < 5; omega) rfl rfl sp ?_); rintro ns1 m ⟨⟨ms, rfl, hms⟩, hok1, hm⟩; refine ⟨by first | rfl | kernel_rfl, ?_⟩)
            refine fl_pure rfl rfl ?_
            refine fl_nil ?_
            refine q_seq ?_
            refine co_seq ?_
            refine co_region ?_
            iterate 2 refine op_pure rfl rfl ?_
            first | refine op_pure rfl (ix_fz rfl rfl rfl rfl rfl rfl rfl (by first | assumption | (simp; done))) ?_ | refine op_pure rfl (ix_sl rfl rfl rfl rfl rfl rfl rfl (by omega)) ?_ | refine op_pure rfl (ix_arr rfl rfl rfl rfl rfl rfl (by omega)) ?_ | refine op_pure rfl rfl ?_
            refine op_mem rfl rfl ?_
            refine op_nil ?_
            refine q_seq ?_
            refine co_seq ?_
            refine co_region ?_
            refine op_pure rfl rfl ?_
            refine op_mem rfl rfl ?_
            first | refine op_ps rfl rfl rfl rfl rfl rfl (fork_s _ _) (by first | rfl | assumption | (simp; done)) (by first | rfl | assumption | (simp; done)) ?_ | refine op_ps rfl rfl rfl rfl rfl rfl (fork_s _ _) (by first | rfl | assumption | (simp; done)) (by first | rfl | assumption | (simp; done)) ?_
            (refine op_step rfl (step_mk 5 rfl rfl rfl rfl (by simp) (by omega) (by show 5 < 6; omega) rfl rfl (node_m _ root _ (by simp only [List.length_append]; omega)) ?_); rintro ns2 m2 ⟨rfl, rfl⟩)
            refine op_pure rfl rfl ?_
            refine op_nil ?_
            refine q_seq ?_
            refine co_ret ?_
            have hm0 : 0 < m := by have := hm.non; rw [ht] at this; simpa using this.symm
            exact fin_mk 8 6 (.inr rfl) (by omega) (by show 6 < 7; omega) rfl rfl rfl rfl (by rw [if_neg (by omega), if_neg (by omega)]; exact gr_fork hms hok1 ((Rep.leaf hx).app _) hm (by omega))
        · exfalso; exact h2 rfl
    · skip
      rw [if_neg (by omega)] at sp
      refine spec_in (fn := Try.f55) rfl rfl rfl (Nat.le_of_ble_eq_true rfl) (fun k0 => ?_)
      refine co_seq ?_
      refine co_region ?_
      refine op_mem rfl rfl ?_
      refine op_pure rfl rfl ?_
      refine op_nil ?_
      refine q_seq ?_
      iterate 2 refine co_seq ?_
      refine co_region ?_
      refine op_pure rfl rfl ?_
      refine op_cmp rfl rfl (by first | exact ltI_iff | exact eqI_iff | exact nlt_iff | exact neq_iff | exact dec_iff | exact bool_iff) ?_
      refine op_nil ?_
      refine q_seq ?_
      refine co_dec rfl (by first | exact ltI_iff | exact eqI_iff | exact nlt_iff | exact neq_iff | exact dec_iff | exact bool_iff) (fun h1 => ?_) (fun h1 => ?_)
      · exfalso; omega
      · refine co_skip ?_
        refine q_seq ?_
        refine co_seq ?_
        refine co_region ?_
        iterate 6 first | refine op_pure rfl rfl ?_ | refine op_mem rfl rfl ?_
        refine op_nat (i) rfl rfl (by first | rfl | omega) ⟨by omega, by omega⟩ ?_
        refine op_pure rfl (ix_sl (i := i) rfl rfl rfl rfl rfl rfl rfl hi) ?_
        refine op_mem rfl (ld_own rfl rfl rfl hw) ?_
        iterate 2 refine op_mem rfl rfl ?_
        refine op_nil ?_
        refine q_seq ?_
        iterate 2 refine co_seq ?_
        refine co_region ?_
        refine op_pure rfl rfl ?_
        refine op_mem rfl rfl ?_
        refine op_bs (by first | exact ltI_iff | exact eqI_iff | exact nlt_iff | exact neq_iff | exact dec_iff | exact bool_iff) (fun h2 => ?_) (fun h2 => ?_)
        · iterate 5 first | refine op_pure rfl rfl ?_ | refine op_mem rfl rfl ?_
          refine op_cmp rfl (bin_eql rfl rfl rfl rfl (eq_dig rfl rfl rfl rfl rfl rfl _ _ 250)) dec_iff ?_
          refine op_pure rfl rfl ?_
          refine op_nil ?_
          refine q_seq ?_
          refine co_dec rfl (by first | exact ltI_iff | exact eqI_iff | exact nlt_iff | exact neq_iff | exact dec_iff | exact bool_iff) (fun h3 => ?_) (fun h3 => ?_)
          · exfalso; exact hk h3
          · refine co_skip ?_
            refine q_seq ?_
            refine co_seq ?_
            refine co_region ?_
            refine op_mem rfl rfl ?_
            refine op_nil ?_
            refine q_seq ?_
            iterate 3 first | refine co_seq ?_ | refine co_region ?_
            iterate 3 first | refine op_pure rfl rfl ?_ | refine op_mem rfl rfl ?_ | refine op_nil ?_
            refine q_seq ?_
            refine co_true rfl ?_
            refine co_region ?_
            iterate 3 first | refine op_pure rfl rfl ?_ | refine op_mem rfl rfl ?_
            (first | refine op_ps rfl rfl rfl rfl rfl rfl (tbit_c k' d 1 hd hc') (by simp) (by simp) ?_ | refine op_ps rfl rfl rfl rfl rfl rfl (tbit_c k d 0 hd hc) (by simp) (by simp) ?_)
            refine op_pure rfl rfl ?_
            first | refine op_pure rfl (ix_fz rfl rfl rfl rfl rfl rfl rfl (by first | assumption | (simp; done))) ?_ | refine op_pure rfl (ix_sl rfl rfl rfl rfl rfl rfl rfl (by omega)) ?_ | refine op_pure rfl (ix_arr rfl rfl rfl rfl rfl rfl (by omega)) ?_ | refine op_pure rfl rfl ?_
            refine op_mem rfl rfl ?_
            refine op_nil ?_
            refine q_seq ?_
            refine co_seq ?_
            refine co_region ?_
            iterate 3 first | refine op_pure rfl rfl ?_ | refine op_mem rfl rfl ?_
            (first | refine op_ps rfl rfl rfl rfl rfl rfl (tbit_c k' d 1 hd hc') (by simp) (by simp) ?_ | refine op_ps rfl rfl rfl rfl rfl rfl (tbit_c k d 0 hd hc) (by simp) (by simp) ?_)
            refine op_pure rfl rfl ?_
            refine op_nil ?_
            refine q_seq ?_
            refine co_seq ?_
            refine co_flow ?_
            iterate 2 refine fl_pure rfl rfl ?_
            first | refine fl_pure rfl (ix_fz rfl rfl rfl rfl rfl rfl rfl (by first | assumption | (simp; done))) ?_ | refine fl_pure rfl (ix_sl rfl rfl rfl rfl rfl rfl rfl (by omega)) ?_ | refine fl_pure rfl (ix_arr rfl rfl rfl rfl rfl rfl (by omega)) ?_ | refine fl_pure rfl rfl ?_
            refine fl_mem rfl rfl (by first | rfl | kernel_rfl) ?_
            refine fl_pure rfl rfl ?_
            refine fl_nat (d + 1) rfl rfl (by first | rfl | omega) ⟨by omega, by omega⟩ ?_
            refine fl_mem rfl rfl (by first | rfl | kernel_rfl) ?_
            (refine fl_step rfl (step_mk 1 rfl rfl rfl rfl (by simp) (by omega) (by show 1 < 5; omega) rfl rfl sp ?_); rintro ns1 m ⟨⟨ms, rfl, hms⟩, hok1, hm⟩; refine ⟨by first | rfl | kernel_rfl, ?_⟩)
            refine fl_pure rfl rfl ?_
            refine fl_nil ?_
            refine q_seq ?_
            refine co_seq ?_
            refine co_region ?_
            iterate 2 refine op_pure rfl rfl ?_
            first | refine op_pure rfl (ix_fz rfl rfl rfl rfl rfl rfl rfl (by first | assumption | (simp; done))) ?_ | refine op_pure rfl (ix_sl rfl rfl rfl rfl rfl rfl rfl (by omega)) ?_ | refine op_pure rfl (ix_arr rfl rfl rfl rfl rfl rfl (by omega)) ?_ | refine op_pure rfl rfl ?_
            refine op_mem rfl rfl ?_
            refine op_nil ?_
            refine q_seq ?_
            refine co_seq ?_
            refine co_region ?_
            refine op_pure rfl rfl ?_
            refine op_mem rfl rfl ?_
            first | refine op_ps rfl rfl rfl rfl rfl rfl (fork_s _ _) (by first | rfl | assumption | (simp; done)) (by first | rfl | assumption | (simp; done)) ?_ | refine op_ps rfl rfl rfl rfl rfl rfl (fork_s _ _) (by first | rfl | assumption | (simp; done)) (by first | rfl | assumption | (simp; done)) ?_
            (refine op_step rfl (step_mk 5 rfl rfl rfl rfl (by simp) (by omega) (by show 5 < 6; omega) rfl rfl (node_m _ root _ (by simp only [List.length_append]; omega)) ?_); rintro ns2 m2 ⟨rfl, rfl⟩)
            refine op_pure rfl rfl ?_
            refine op_nil ?_
            refine q_seq ?_
            refine co_ret ?_
            have hm0 : 0 < m := by have := hm.non; rw [ht] at this; simpa using this.symm
            exact fin_mk 8 6 (.inr rfl) (by omega) (by show 6 < 7; omega) rfl rfl rfl rfl (by rw [if_pos hc, if_neg (by omega)]; exact gr_fork hms hok1 hm ((Rep.leaf hx).app _) (by omega))
        · exfalso; exact h2 rfl
    · skip
      rw [if_pos (hc.trans hc'.symm)] at sp
      refine spec_in (fn := Try.f55) rfl rfl rfl (Nat.le_of_ble_eq_true rfl) (fun k0 => ?_)
      refine co_seq ?_
      refine co_region ?_
      refine op_mem rfl rfl ?_
      refine op_pure rfl rfl ?_
      refine op_nil ?_
      refine q_seq ?_
      iterate 2 refine co_seq ?_
      refine co_region ?_
      refine op_pure rfl rfl ?_
      refine op_cmp rfl rfl (by first | exact ltI_iff | exact eqI_iff | exact nlt_iff | exact neq_iff | exact dec_iff | exact bool_iff) ?_
      refine op_nil ?_
      refine q_seq ?_
      refine co_dec rfl (by first | exact ltI_iff | exact eqI_iff | exact nlt_iff | exact neq_iff | exact dec_iff | exact bool_iff) (fun h1 => ?_) (fun h1 => ?_)
      · exfalso; omega
      · refine co_skip ?_
        refine q_seq ?_
        refine co_seq ?_
        refine co_region ?_
        iterate 6 first | refine op_pure rfl rfl ?_ | refine op_mem rfl rfl ?_
        refine op_nat (i) rfl rfl (by first | rfl | omega) ⟨by omega, by omega⟩ ?_
        refine op_pure rfl (ix_sl (i := i) rfl rfl rfl rfl rfl rfl rfl hi) ?_
        refine op_mem rfl (ld_own rfl rfl rfl hw) ?_
        iterate 2 refine op_mem rfl rfl ?_
        refine op_nil ?_
        refine q_seq ?_
        iterate 2 refine co_seq ?_
        refine co_region ?_
        refine op_pure rfl rfl ?_
        refine op_mem rfl rfl ?_
        refine op_bs (by first | exact ltI_iff | exact eqI_iff | exact nlt_iff | exact neq_iff | exact dec_iff | exact bool_iff) (fun h2 => ?_) (fun h2 => ?_)
        · iterate 5 first | refine op_pure rfl rfl ?_ | refine op_mem rfl rfl ?_
          refine op_cmp rfl (bin_eql rfl rfl rfl rfl (eq_dig rfl rfl rfl rfl rfl rfl _ _ 250)) dec_iff ?_
          refine op_pure rfl rfl ?_
          refine op_nil ?_
          refine q_seq ?_
          refine co_dec rfl (by first | exact ltI_iff | exact eqI_iff | exact nlt_iff | exact neq_iff | exact dec_iff | exact bool_iff) (fun h3 => ?_) (fun h3 => ?_)
          · exfalso; exact hk h3
          · refine co_skip ?_
            refine q_seq ?_
            refine co_seq ?_
            refine co_region ?_
            refine op_mem rfl rfl ?_
            refine op_nil ?_
            refine q_seq ?_
            iterate 3 first | refine co_seq ?_ | refine co_region ?_
            iterate 3 first | refine op_pure rfl rfl ?_ | refine op_mem rfl rfl ?_ | refine op_nil ?_
            refine q_seq ?_
            refine co_true rfl ?_
            refine co_region ?_
            iterate 3 first | refine op_pure rfl rfl ?_ | refine op_mem rfl rfl ?_
            (first | refine op_ps rfl rfl rfl rfl rfl rfl (tbit_c k' d 1 hd hc') (by simp) (by simp) ?_ | refine op_ps rfl rfl rfl rfl rfl rfl (tbit_c k d 1 hd hc) (by simp) (by simp) ?_)
            refine op_pure rfl rfl ?_
            first | refine op_pure rfl (ix_fz rfl rfl rfl rfl rfl rfl rfl (by first | assumption | (simp; done))) ?_ | refine op_pure rfl (ix_sl rfl rfl rfl rfl rfl rfl rfl (by omega)) ?_ | refine op_pure rfl (ix_arr rfl rfl rfl rfl rfl rfl (by omega)) ?_ | refine op_pure rfl rfl ?_
            refine op_mem rfl rfl ?_
            refine op_nil ?_
            refine q_seq ?_
            refine co_seq ?_
            refine co_region ?_
            iterate 3 first | refine op_pure rfl rfl ?_ | refine op_mem rfl rfl ?_
            (first | refine op_ps rfl rfl rfl rfl rfl rfl (tbit_c k' d 1 hd hc') (by simp) (by simp) ?_ | refine op_ps rfl rfl rfl rfl rfl rfl (tbit_c k d 1 hd hc) (by simp) (by simp) ?_)
            refine op_pure rfl rfl ?_
            refine op_nil ?_
            refine q_seq ?_
            refine co_seq ?_
            refine co_flow ?_
            iterate 2 refine fl_pure rfl rfl ?_
            first | refine fl_pure rfl (ix_fz rfl rfl rfl rfl rfl rfl rfl (by first | assumption | (simp; done))) ?_ | refine fl_pure rfl (ix_sl rfl rfl rfl rfl rfl rfl rfl (by omega)) ?_ | refine fl_pure rfl (ix_arr rfl rfl rfl rfl rfl rfl (by omega)) ?_ | refine fl_pure rfl rfl ?_
            refine fl_mem rfl rfl (by first | rfl | kernel_rfl) ?_
            refine fl_pure rfl rfl ?_
            refine fl_nat (d + 1) rfl rfl (by first | rfl | omega) ⟨by omega, by omega⟩ ?_
            refine fl_mem rfl rfl (by first | rfl | kernel_rfl) ?_
            (refine fl_step rfl (step_mk 1 rfl rfl rfl rfl (by simp) (by omega) (by show 1 < 5; omega) rfl rfl sp ?_); rintro ns1 m ⟨⟨ms, rfl, hms⟩, hok1, hm⟩; refine ⟨by first | rfl | kernel_rfl, ?_⟩)
            refine fl_pure rfl rfl ?_
            refine fl_nil ?_
            refine q_seq ?_
            refine co_seq ?_
            refine co_region ?_
            iterate 2 refine op_pure rfl rfl ?_
            first | refine op_pure rfl (ix_fz rfl rfl rfl rfl rfl rfl rfl (by first | assumption | (simp; done))) ?_ | refine op_pure rfl (ix_sl rfl rfl rfl rfl rfl rfl rfl (by omega)) ?_ | refine op_pure rfl (ix_arr rfl rfl rfl rfl rfl rfl (by omega)) ?_ | refine op_pure rfl rfl ?_
            refine op_mem rfl rfl ?_
            refine op_nil ?_
            refine q_seq ?_
            refine co_seq ?_
            refine co_region ?_
            refine op_pure rfl rfl ?_
            refine op_mem rfl rfl ?_
            first | refine op_ps rfl rfl rfl rfl rfl rfl (fork_s _ _) (by first | rfl | assumption | (simp; done)) (by first | rfl | assumption | (simp; done)) ?_ | refine op_ps rfl rfl rfl rfl rfl rfl (fork_s _ _) (by first | rfl | assumption | (simp; done)) (by first | rfl | assumption | (simp; done)) ?_
            (refine op_step rfl (step_mk 5 rfl rfl rfl rfl (by simp) (by omega) (by show 5 < 6; omega) rfl rfl (node_m _ root _ (by simp only [List.length_append]; omega)) ?_); rintro ns2 m2 ⟨rfl, rfl⟩)
            refine op_pure rfl rfl ?_
            refine op_nil ?_
            refine q_seq ?_
            refine co_ret ?_
            have hm0 : 0 < m := by have := hm.non; rw [ht] at this; simpa using this.symm
            exact fin_mk 8 6 (.inr rfl) (by omega) (by show 6 < 7; omega) rfl rfl rfl rfl (by rw [if_neg (by omega), if_pos (hc.trans hc'.symm)]; exact gr_fork hms hok1 (.nil) hm (by omega))
        · exfalso; exact h2 rfl
theorem fork_one {ns : List Node} {i l r : Nat} {k' : Dig} {v' : List UInt8} (hx : ns[i]? = some ⟨false, k', v', l, r⟩) (hok : okN ns) : k' = zeroD ∧ v' = [] ∧ l ≤ i ∧ r ≤ i ∧ 0 < l + r := by
  have h := hok i _ hx
  simp only [oneB, Bool.false_eq_true, if_false] at h
  obtain ⟨⟨_, a2⟩, ⟨_, b2⟩, h1, h2, h3⟩ := h
  exact ⟨h1, h2, by omega, by omega, by omega⟩
theorem fork_all {ns : List Node} {i l r : Nat} {k' : Dig} {v' : List UInt8} (hx : ns[i]? = some ⟨false, k', v', l, r⟩) (hok : okN ns) : getAtW 50 (nsW ns) (0 + i * 36) 36 true = some (nW ⟨false, k', v', l, r⟩) := by
  obtain ⟨w, hw, rfl | ⟨h1, rfl⟩⟩ := node_all ns hx
  · exact hw
  · obtain ⟨_, _, h2, h3, h4⟩ := fork_one hx hok
    have hi := (List.getElem?_eq_some_iff.1 hx).1
    omega
theorem with_fork {root : Int} {k k' : Dig} {v v' : List UInt8} {ns : List Node} {i d f l r : Nat} {L R t' : T} (hx : ns[i]? = some ⟨false, k', v', l, r⟩) (hok : okN ns) (hL : Rep ns l L) (hR : Rep ns r R) (hd : d < 256) (hl : ns.length + f + 1 ≤ 1000000000) (ht : t'.non = true)
    (sp : WithS G root k v ns (if bitN k d = 0 then l else r) (d + 1) (Gr ns f t')) : WithS G root k v ns (i + 1) d (Gr ns (f + 1) (if bitN k d = 0 then .fork t' R else .fork L t')) := by
  intro R'
  have hi := (List.getElem?_eq_some_iff.1 hx).1
  have b1 := bitN_le k d
  have hc : bitN k d = 0 ∨ bitN k d = 1 := by omega
  have hw := fork_all hx hok
  rcases hc with hc | hc
  · skip
    rw [if_pos hc] at sp
    refine spec_in (fn := Try.f55) rfl rfl rfl (Nat.le_of_ble_eq_true rfl) (fun k0 => ?_)
    refine co_seq ?_
    refine co_region ?_
    refine op_mem rfl rfl ?_
    refine op_pure rfl rfl ?_
    refine op_nil ?_
    refine q_seq ?_
    iterate 2 refine co_seq ?_
    refine co_region ?_
    refine op_pure rfl rfl ?_
    refine op_cmp rfl rfl (by first | exact ltI_iff | exact eqI_iff | exact nlt_iff | exact neq_iff | exact dec_iff | exact bool_iff) ?_
    refine op_nil ?_
    refine q_seq ?_
    refine co_dec rfl (by first | exact ltI_iff | exact eqI_iff | exact nlt_iff | exact neq_iff | exact dec_iff | exact bool_iff) (fun h1 => ?_) (fun h1 => ?_)
    · exfalso; omega
    · refine co_skip ?_
      refine q_seq ?_
      refine co_seq ?_
      refine co_region ?_
      iterate 6 first | refine op_pure rfl rfl ?_ | refine op_mem rfl rfl ?_
      refine op_nat (i) rfl rfl (by first | rfl | omega) ⟨by omega, by omega⟩ ?_
      refine op_pure rfl (ix_sl (i := i) rfl rfl rfl rfl rfl rfl rfl hi) ?_
      refine op_mem rfl (ld_own rfl rfl rfl hw) ?_
      iterate 2 refine op_mem rfl rfl ?_
      refine op_nil ?_
      refine q_seq ?_
      iterate 2 refine co_seq ?_
      refine co_region ?_
      refine op_pure rfl rfl ?_
      refine op_mem rfl rfl ?_
      refine op_bs (by first | exact ltI_iff | exact eqI_iff | exact nlt_iff | exact neq_iff | exact dec_iff | exact bool_iff) (fun h2 => ?_) (fun h2 => ?_)
      · exfalso; cases h2
      · iterate 8 first | refine op_pure rfl rfl ?_ | refine op_skip rfl ?_ | refine op_nil ?_
        refine q_seq ?_
        refine co_false rfl ?_
        refine co_skip ?_
        refine q_seq ?_
        refine co_seq ?_
        refine co_region ?_
        refine op_mem rfl rfl ?_
        refine op_nil ?_
        refine q_seq ?_
        iterate 2 refine co_seq ?_
        refine co_region ?_
        refine op_pure rfl rfl ?_
        refine op_mem rfl rfl ?_
        refine op_nil ?_
        refine q_seq ?_
        refine co_false rfl ?_
        refine co_region ?_
        refine op_mem rfl rfl ?_
        first | refine op_ps rfl rfl rfl rfl rfl rfl (roads_s _) (by first | rfl | assumption | (simp; done)) (by first | rfl | assumption | (simp; done)) ?_ | refine op_ps rfl rfl rfl rfl rfl rfl (roads_s _) (by first | rfl | assumption | (simp; done)) (by first | rfl | assumption | (simp; done)) ?_
        refine op_mem rfl rfl ?_
        refine op_nil ?_
        refine q_seq ?_
        refine co_seq ?_
        refine co_region ?_
        iterate 3 first | refine op_pure rfl rfl ?_ | refine op_mem rfl rfl ?_
        refine op_ps rfl rfl rfl rfl rfl rfl (tbit_c k d 0 hd hc) (by first | rfl | assumption | (simp; done)) (by first | rfl | assumption | (simp; done)) ?_
        refine op_pure rfl rfl ?_
        refine op_nil ?_
        refine q_seq ?_
        refine co_seq ?_
        refine co_flow ?_
        iterate 2 refine fl_pure rfl rfl ?_
        first | refine fl_pure rfl (ix_fz rfl rfl rfl rfl rfl rfl rfl (by first | assumption | (simp; done))) ?_ | refine fl_pure rfl (ix_sl rfl rfl rfl rfl rfl rfl rfl (by omega)) ?_ | refine fl_pure rfl (ix_arr rfl rfl rfl rfl rfl rfl (by omega)) ?_ | refine fl_pure rfl rfl ?_
        refine fl_mem rfl rfl (by first | rfl | kernel_rfl) ?_
        refine fl_pure rfl rfl ?_
        refine fl_nat (d + 1) rfl rfl (by first | rfl | omega) ⟨by omega, by omega⟩ ?_
        refine fl_mem rfl rfl (by first | rfl | kernel_rfl) ?_
        (refine fl_step rfl (step_mk 1 rfl rfl rfl rfl (by simp) (by omega) (by show 1 < 5; omega) rfl rfl sp ?_); rintro ns1 m ⟨⟨ms, rfl, hms⟩, hok1, hm⟩; refine ⟨by first | rfl | kernel_rfl, ?_⟩)
        refine fl_pure rfl rfl ?_
        refine fl_nil ?_
        refine q_seq ?_
        refine co_seq ?_
        refine co_region ?_
        iterate 2 refine op_pure rfl rfl ?_
        first | refine op_pure rfl (ix_fz rfl rfl rfl rfl rfl rfl rfl (by first | assumption | (simp; done))) ?_ | refine op_pure rfl (ix_sl rfl rfl rfl rfl rfl rfl rfl (by omega)) ?_ | refine op_pure rfl (ix_arr rfl rfl rfl rfl rfl rfl (by omega)) ?_ | refine op_pure rfl rfl ?_
        refine op_mem rfl rfl ?_
        refine op_nil ?_
        refine q_seq ?_
        refine co_seq ?_
        refine co_region ?_
        refine op_pure rfl rfl ?_
        refine op_mem rfl rfl ?_
        first | refine op_ps rfl rfl rfl rfl rfl rfl (fork_s _ _) (by first | rfl | assumption | (simp; done)) (by first | rfl | assumption | (simp; done)) ?_ | refine op_ps rfl rfl rfl rfl rfl rfl (fork_s _ _) (by first | rfl | assumption | (simp; done)) (by first | rfl | assumption | (simp; done)) ?_
        (refine op_step rfl (step_mk 5 rfl rfl rfl rfl (by simp) (by omega) (by show 5 < 6; omega) rfl rfl (node_m _ root _ (by simp only [List.length_append]; omega)) ?_); rintro ns2 m2 ⟨rfl, rfl⟩)
        refine op_pure rfl rfl ?_
        refine op_nil ?_
        refine q_seq ?_
        refine co_ret ?_
        have hm0 : 0 < m := by have := hm.non; rw [ht] at this; simpa using this.symm
        exact fin_mk 8 6 (.inr rfl) (by omega) (by show 6 < 7; omega) rfl rfl rfl rfl (by rw [if_pos hc]; exact gr_fork hms hok1 hm (hR.app _) (by omega))
  · skip
    rw [if_neg (by omega)] at sp
    refine spec_in (fn := Try.f55) rfl rfl rfl (Nat.le_of_ble_eq_true rfl) (fun k0 => ?_)
    refine co_seq ?_
    refine co_region ?_
    refine op_mem rfl rfl ?_
    refine op_pure rfl rfl ?_
    refine op_nil ?_
    refine q_seq ?_
    iterate 2 refine co_seq ?_
    refine co_region ?_
    refine op_pure rfl rfl ?_
    refine op_cmp rfl rfl (by first | exact ltI_iff | exact eqI_iff | exact nlt_iff | exact neq_iff | exact dec_iff | exact bool_iff) ?_
    refine op_nil ?_
    refine q_seq ?_
    refine co_dec rfl (by first | exact ltI_iff | exact eqI_iff | exact nlt_iff | exact neq_iff | exact dec_iff | exact bool_iff) (fun h1 => ?_) (fun h1 => ?_)
    · exfalso; omega
    · refine co_skip ?_
      refine q_seq ?_
      refine co_seq ?_
      refine co_region ?_
      iterate 6 first | refine op_pure rfl rfl ?_ | refine op_mem rfl rfl ?_
      refine op_nat (i) rfl rfl (by first | rfl | omega) ⟨by omega, by omega⟩ ?_
      refine op_pure rfl (ix_sl (i := i) rfl rfl rfl rfl rfl rfl rfl hi) ?_
      refine op_mem rfl (ld_own rfl rfl rfl hw) ?_
      iterate 2 refine op_mem rfl rfl ?_
      refine op_nil ?_
      refine q_seq ?_
      iterate 2 refine co_seq ?_
      refine co_region ?_
      refine op_pure rfl rfl ?_
      refine op_mem rfl rfl ?_
      refine op_bs (by first | exact ltI_iff | exact eqI_iff | exact nlt_iff | exact neq_iff | exact dec_iff | exact bool_iff) (fun h2 => ?_) (fun h2 => ?_)
      · exfalso; cases h2
      · iterate 8 first | refine op_pure rfl rfl ?_ | refine op_skip rfl ?_ | refine op_nil ?_
        refine q_seq ?_
        refine co_false rfl ?_
        refine co_skip ?_
        refine q_seq ?_
        refine co_seq ?_
        refine co_region ?_
        refine op_mem rfl rfl ?_
        refine op_nil ?_
        refine q_seq ?_
        iterate 2 refine co_seq ?_
        refine co_region ?_
        refine op_pure rfl rfl ?_
        refine op_mem rfl rfl ?_
        refine op_nil ?_
        refine q_seq ?_
        refine co_false rfl ?_
        refine co_region ?_
        refine op_mem rfl rfl ?_
        first | refine op_ps rfl rfl rfl rfl rfl rfl (roads_s _) (by first | rfl | assumption | (simp; done)) (by first | rfl | assumption | (simp; done)) ?_ | refine op_ps rfl rfl rfl rfl rfl rfl (roads_s _) (by first | rfl | assumption | (simp; done)) (by first | rfl | assumption | (simp; done)) ?_
        refine op_mem rfl rfl ?_
        refine op_nil ?_
        refine q_seq ?_
        refine co_seq ?_
        refine co_region ?_
        iterate 3 first | refine op_pure rfl rfl ?_ | refine op_mem rfl rfl ?_
        refine op_ps rfl rfl rfl rfl rfl rfl (tbit_c k d 1 hd hc) (by first | rfl | assumption | (simp; done)) (by first | rfl | assumption | (simp; done)) ?_
        refine op_pure rfl rfl ?_
        refine op_nil ?_
        refine q_seq ?_
        refine co_seq ?_
        refine co_flow ?_
        iterate 2 refine fl_pure rfl rfl ?_
        first | refine fl_pure rfl (ix_fz rfl rfl rfl rfl rfl rfl rfl (by first | assumption | (simp; done))) ?_ | refine fl_pure rfl (ix_sl rfl rfl rfl rfl rfl rfl rfl (by omega)) ?_ | refine fl_pure rfl (ix_arr rfl rfl rfl rfl rfl rfl (by omega)) ?_ | refine fl_pure rfl rfl ?_
        refine fl_mem rfl rfl (by first | rfl | kernel_rfl) ?_
        refine fl_pure rfl rfl ?_
        refine fl_nat (d + 1) rfl rfl (by first | rfl | omega) ⟨by omega, by omega⟩ ?_
        refine fl_mem rfl rfl (by first | rfl | kernel_rfl) ?_
        (refine fl_step rfl (step_mk 1 rfl rfl rfl rfl (by simp) (by omega) (by show 1 < 5; omega) rfl rfl sp ?_); rintro ns1 m ⟨⟨ms, rfl, hms⟩, hok1, hm⟩; refine ⟨by first | rfl | kernel_rfl, ?_⟩)
        refine fl_pure rfl rfl ?_
        refine fl_nil ?_
        refine q_seq ?_
        refine co_seq ?_
        refine co_region ?_
        iterate 2 refine op_pure rfl rfl ?_
        first | refine op_pure rfl (ix_fz rfl rfl rfl rfl rfl rfl rfl (by first | assumption | (simp; done))) ?_ | refine op_pure rfl (ix_sl rfl rfl rfl rfl rfl rfl rfl (by omega)) ?_ | refine op_pure rfl (ix_arr rfl rfl rfl rfl rfl rfl (by omega)) ?_ | refine op_pure rfl rfl ?_
        refine op_mem rfl rfl ?_
        refine op_nil ?_
        refine q_seq ?_
        refine co_seq ?_
        refine co_region ?_
        refine op_pure rfl rfl ?_
        refine op_mem rfl rfl ?_
        first | refine op_ps rfl rfl rfl rfl rfl rfl (fork_s _ _) (by first | rfl | assumption | (simp; done)) (by first | rfl | assumption | (simp; done)) ?_ | refine op_ps rfl rfl rfl rfl rfl rfl (fork_s _ _) (by first | rfl | assumption | (simp; done)) (by first | rfl | assumption | (simp; done)) ?_
        (refine op_step rfl (step_mk 5 rfl rfl rfl rfl (by simp) (by omega) (by show 5 < 6; omega) rfl rfl (node_m _ root _ (by simp only [List.length_append]; omega)) ?_); rintro ns2 m2 ⟨rfl, rfl⟩)
        refine op_pure rfl rfl ?_
        refine op_nil ?_
        refine q_seq ?_
        refine co_ret ?_
        have hm0 : 0 < m := by have := hm.non; rw [ht] at this; simpa using this.symm
        exact fin_mk 8 6 (.inr rfl) (by omega) (by show 6 < 7; omega) rfl rfl rfl rfl (by rw [if_neg (by omega)]; exact gr_fork hms hok1 (hL.app _) hm (by omega))
theorem with_s (root : Int) (k : Dig) (v : List UInt8) (hv : MayP [(k, v)]) : ∀ (f : Nat) (t : T) (ns : List Node) (n d : Nat) (b : Dig), Rep ns n t → okN ns → t.ok d b = true → d + f = 256 → Zr d b → d ≤ sharedD k b → ns.length + f + 1 ≤ 1000000000 → WithS G root k v ns n d (Gr ns (f + 1) (T.put k v f t)) := by
  intro f
  induction f with
  | zero =>
    intro t ns n d b hr hok ht hf hz hk hl
    cases hr with
    | nil => exact with_nil hok hv (by omega) (by omega)
    | leaf hx =>
      rename_i n k' v' l r
      have h := of_decide_eq_true ht
      have : k' = k := bits_ext fun j hj => by rw [(shared_ge (by omega)).1 h j (by omega), (shared_ge (by omega)).1 hk j (by omega)]
      subst this
      exact with_hit hx hok hv (by omega) (by omega)
    | fork hx _ _ hL hR =>
      obtain ⟨hd, _⟩ := ok_fork.1 ht
      omega
  | succ f ih =>
    intro t ns n d b hr hok ht hf hz hk hl
    have hd : d < 256 := by omega
    have ed : 255 - f = d := by omega
    cases hr with
    | nil => exact with_nil hok hv (by omega) (by omega)
    | leaf hx =>
      rename_i n k' v' l r
      have h := of_decide_eq_true ht
      by_cases e : k' = k
      · subst e
        simp only [T.put, if_true]
        exact with_hit hx hok hv (by omega) (by omega)
      · have b1 := bitN_le k' d
        have b2 := bitN_le k d
        have b3 := bitN_le b d
        have key : WithS G root k v ns (n + 1) d (Gr ns (f + 1 + 1) (if bitN k d = 0 then .fork (T.put k v f (if bitN k d = bitN k' d then .leaf k' v' else .nil)) (if bitN k d = bitN k' d then .nil else .leaf k' v') else .fork (if bitN k d = bitN k' d then .nil else .leaf k' v') (T.put k v f (if bitN k d = bitN k' d then .leaf k' v' else .nil)))) := by
          refine with_leaf hx e hd (by omega) (put_non k v f _) ?_
          by_cases hb : bitN k d = 0
          · by_cases he : bitN k d = bitN k' d
            · rw [if_pos he, if_pos he]
              exact ih _ ns _ (d + 1) b (.leaf hx) hok (decide_eq_true (side_l' hz hd h (by omega))) (by omega) (zr_mono hz) (side_l' hz hd hk hb) (by omega)
            · rw [if_neg he, if_neg he]
              exact ih _ ns _ (d + 1) b .nil hok rfl (by omega) (zr_mono hz) (side_l' hz hd hk hb) (by omega)
          · by_cases he : bitN k d = bitN k' d
            · rw [if_pos he, if_pos he]
              exact ih _ ns _ (d + 1) (turnM b d) (.leaf hx) hok (decide_eq_true (side_r' hz hd h (by omega))) (by omega) (zr_turn hz hd) (side_r' hz hd hk hb) (by omega)
            · rw [if_neg he, if_neg he]
              exact ih _ ns _ (d + 1) (turnM b d) .nil hok rfl (by omega) (zr_turn hz hd) (side_r' hz hd hk hb) (by omega)
        have ep : T.put k v (f + 1) (.leaf k' v') = (if bitN k d = 0 then .fork (T.put k v f (if bitN k d = bitN k' d then .leaf k' v' else .nil)) (if bitN k d = bitN k' d then .nil else .leaf k' v') else .fork (if bitN k d = bitN k' d then .nil else .leaf k' v') (T.put k v f (if bitN k d = bitN k' d then .leaf k' v' else .nil))) := by
          simp only [T.put, ed, if_neg e, T.roads]
          have c1 : bitN k d = 0 ∨ bitN k d = 1 := by omega
          have c2 : bitN k' d = 0 ∨ bitN k' d = 1 := by omega
          rcases c1 with c1 | c1 <;> rcases c2 with c2 | c2 <;> simp [c1, c2]
        rw [ep]
        exact key
    | fork hx h1 h2 hL hR =>
      rename_i n l r k' v' tl tr
      obtain ⟨_, k1, k2, _⟩ := ok_fork.1 ht
      have key : WithS G root k v ns (n + 1) d (Gr ns (f + 1 + 1) (if bitN k d = 0 then .fork (T.put k v f (if bitN k d = 0 then tl else tr)) tr else .fork tl (T.put k v f (if bitN k d = 0 then tl else tr)))) := by
        refine with_fork hx hok hL hR hd (by omega) (put_non k v f _) ?_
        by_cases hb : bitN k d = 0
        · rw [if_pos hb, if_pos hb]
          exact ih _ ns _ (d + 1) b hL hok k1 (by omega) (zr_mono hz) (side_l' hz hd hk hb) (by omega)
        · rw [if_neg hb, if_neg hb]
          exact ih _ ns _ (d + 1) (turnM b d) hR hok k2 (by omega) (zr_turn hz hd) (side_r' hz hd hk hb) (by omega)
      have ep : T.put k v (f + 1) (.fork tl tr) = (if bitN k d = 0 then .fork (T.put k v f (if bitN k d = 0 then tl else tr)) tr else .fork tl (T.put k v f (if bitN k d = 0 then tl else tr))) := by
        simp only [T.put, ed]
        by_cases hb : bitN k d = 0
        · simp only [if_pos hb]
        · simp only [if_neg hb]
      rw [ep]
      exact key
end Go.Proofs.Ytgeelfdgnehdnaa
namespace Go.Proofs.Ytgeelfdgnehdnaa
open Go.RowKit
set_option linter.unusedSimpArgs false
set_option linter.unusedVariables false
attribute [local irreducible] CoW OpW FlW Step Spec
variable {G : Nat → Option W}
noncomputable def MkO (root : Int) (ns : List Node) (S : Nat → Prop) (P : List Node → Nat → Prop) : W → HpW → Nat → Prop := fun w hp nw =>
  (∃ m, S m ∧ w = .int .i64 ((m : Nat) : Int) ∧ hp = [(0, 101, mkW 1 ns.length root), (1, 70, nsW ns)] ∧ nw = 2) ∨ Mk root P w hp nw
theorem step_mkO {o : Oper} {fr : FrW} {hp : HpW} {nw : Nat} {R : Res} {post : W → HpW → Nat → Res → Option EvW → Prop} {x : Operand} {xs : Array Operand} {ats : Array TypeId} {f : FuncId} {us : List W} {root : Int} {ns : List Node} {S : Nat → Prop} {P : List Node → Nat → Prop} (k : Nat)
    (ho : o.op = .call ⟨.value x, xs, ats⟩) (hx : evW cfg G fr x = some (.fn f [] [])) (he : cfg.ext f = none) (hxs : evLW cfg G fr xs.toList = some (.ptr 0 0 :: us)) (hpu : purL us = true) (hk : 0 < k) (hkn : k < nw)
    (h0 : hget hp 0 = some (101, mkW k ns.length root)) (h1 : hget hp k = some (70, nsW ns)) (sp : PSpec cfg G f 2 (.ptr 0 0 :: us) [(0, 101, mkW 1 ns.length root), (1, 70, nsW ns)] (MkO root ns S P))
    (hsame : ∀ m, S m → post (.int .i64 ((m : Nat) : Int)) ((0, 101, mkW k ns.length root) :: (k, 70, nsW ns) :: delA [0, k] hp) nw R (some .dirty))
    (hpost : ∀ ns' m, P ns' m → post (.int .i64 ((m : Nat) : Int)) ((0, 101, mkW nw ns'.length root) :: (nw, 70, nsW ns') :: delA [0, k] hp) (nw + 1) R (some .dirty)) : Step cfg G o fr hp nw R post := by
  refine step_call (ext := [0, k]) (ws := .ptr 0 0 :: us) ho hx he hxs ?_ sp ?_ ?_ (by simp) (handed2 h0 (by rw [ren_pur (nsW_p _)]; exact h1) rfl (ref_pur (nsW_p _))) ?_ ?_
  · show .ptr 0 0 :: (us ++ []) = W.ptr 0 0 :: renWL (numC [0, k] nw) us
    rw [renWL_pur hpu, List.append_nil]
  · simp; omega
  · intro b hb
    simp only [List.mem_cons, List.not_mem_nil, or_false] at hb
    omega
  · have h := ref_pur (m := 2) (w := .tup us) hpu
    have h : refL 2 us = true := h
    show (refB 2 (.ptr 0 0) && refL 2 us) = true
    rw [h]; rfl
  · rintro w hp1 nw1 (⟨m, h, rfl, rfl, rfl⟩ | ⟨ns', m, h, rfl, rfl, rfl⟩)
    · have e : renH (numC [0, k] nw) [(0, 101, mkW 1 ns.length root), (1, 70, nsW ns)] = [(0, 101, mkW k ns.length root), (k, 70, nsW ns)] := by
        simp only [renH, ren_pur (nsW_p _)]; rfl
      have h := hsame m h
      rw [show ([0, k] : List Nat).length = 2 from rfl, e]
      exact h
    · have e : renH (numC [0, k] nw) [(0, 101, mkW 2 ns'.length root), (2, 70, nsW ns')] = [(0, 101, mkW nw ns'.length root), (nw, 70, nsW ns')] := by
        simp only [renH, ren_pur (nsW_p _)]; rfl
      have h := hpost ns' m h
      rw [show ([0, k] : List Nat).length = 2 from rfl, e]
      exact h
theorem fin_mkO {k0 : Nat} {rs : List ResultVar} {x : Exit} {fr : FrW} {hp : HpW} {nw : Nat} {R : Res} {root : Int} {P : List Node → Nat → Prop} {ns0 : List Node} {S : Nat → Prop} {ns : List Node} {m : Nat} (s k : Nat) (hx : x = .normal ∨ x = .ret) (hk : 2 ≤ k) (hkn : k < nw) (hf : getW fr s = some (.int .i64 ((m : Nat) : Int)))
    (h0 : hget hp (tau1 2 k 0) = some (101, renW (tau1 2 k) (mkW 2 ns.length root))) (h1 : hget hp (tau1 2 k 2) = some (70, nsW ns)) (ho : outW cfg [(s, .int .i64 ((m : Nat) : Int))] [(0, 101, mkW 2 ns.length root), (2, 70, nsW ns)] rs = some (.int .i64 ((m : Nat) : Int))) (hP : P ns m) :
    QFin cfg G 2 k0 rs (fun w hp nw R' => R' = R ∧ MkO root ns0 S P w hp nw) x fr hp nw R :=
  fin hx (ent_last (b := 2) (k := k) (fr2 := [(s, .int .i64 ((m : Nat) : Int))]) (hp2 := [(0, 101, mkW 2 ns.length root), (2, 70, nsW ns)]) (by omega) hk hkn ⟨⟨hf, rfl⟩, trivial⟩ ⟨⟨by omega, h0, rfl⟩, ⟨by omega, by rw [ren_pur (nsW_p _)]; exact h1, ref_pur (nsW_p _)⟩, trivial⟩ (by simp)) ho ⟨rfl, .inr ⟨ns, m, hP, rfl, rfl, rfl⟩⟩
theorem fin_same {k0 : Nat} {rs : List ResultVar} {x : Exit} {fr : FrW} {hp : HpW} {nw : Nat} {R : Res} {root : Int} {P : List Node → Nat → Prop} {S : Nat → Prop} {ns : List Node} {m : Nat} (s : Nat) (hx : x = .normal ∨ x = .ret) (hkn : 2 ≤ nw) (hf : getW fr s = some (.int .i64 ((m : Nat) : Int)))
    (h0 : hget hp 0 = some (101, mkW 1 ns.length root)) (h1 : hget hp 1 = some (70, nsW ns)) (ho : outW cfg [(s, .int .i64 ((m : Nat) : Int))] [(0, 101, mkW 1 ns.length root), (1, 70, nsW ns)] rs = some (.int .i64 ((m : Nat) : Int))) (hP : S m) :
    QFin cfg G 2 k0 rs (fun w hp nw R' => R' = R ∧ MkO root ns S P w hp nw) x fr hp nw R :=
  fin hx (ent_low (nw2 := 2) (fr2 := [(s, .int .i64 ((m : Nat) : Int))]) (hp2 := [(0, 101, mkW 1 ns.length root), (1, 70, nsW ns)]) (by omega) hkn ⟨hf, trivial⟩ rfl (fun b y hb => by
    match b, hb with
    | 0, hb => cases hb; exact ⟨by omega, h0, rfl⟩
    | 1, hb => cases hb; exact ⟨by omega, h1, ref_pur (nsW_p _)⟩
    | b + 2, hb => cases hb) (by simp)) ho ⟨rfl, .inl ⟨m, hP, rfl, rfl, rfl⟩⟩
theorem node_leaf (ns : List Node) {i : Nat} {x : Node} (h : ns[i]? = some x) : getAtW 50 (nsW ns) (0 + i * 36 + 0) 1 false = some (.bool x.leaf) :=
  get_in (map_at nW h) (by omega) (by omega) (by simp) rfl
theorem Rep.zero {ns : List Node} {t : T} (h : Rep ns 0 t) : t = .nil := by cases h; rfl
theorem Rep.is_leaf {ns : List Node} {n : Nat} {t : T} {x : Node} (h : Rep ns (n + 1) t) (hx : ns[n]? = some x) : (x.leaf = true → ∃ k v, t = .leaf k v) ∧ (x.leaf = false → ∃ l r, t = .fork l r) := by
  cases h with
  | leaf h2 => rw [hx] at h2; cases h2; exact ⟨fun _ => ⟨_, _, rfl⟩, fun h => by cases h⟩
  | fork h2 => rw [hx] at h2; cases h2; exact ⟨fun h => (by cases h), fun _ => ⟨_, _, rfl⟩⟩
theorem join_nil {ns : List Node} {l r : Nat} {L R : T} (hl : Rep ns l L) (hr : Rep ns r R) (h : l + r = 0) : Rep ns (l + r) (T.join L R) := by
  obtain rfl : l = 0 := by omega
  obtain rfl : r = 0 := by omega
  rw [hl.zero, hr.zero]; exact .nil
theorem join_leaf {ns : List Node} {l r : Nat} {L R : T} {x : Node} (hl : Rep ns l L) (hr : Rep ns r R) (h : l = 0 ∨ r = 0) (h0 : 0 < l + r) (hx : ns[l + r - 1]? = some x) (hf : x.leaf = true) : Rep ns (l + r) (T.join L R) := by
  rcases h with rfl | rfl
  · cases r with
    | zero => omega
    | succ r =>
      have e : 0 + (r + 1) - 1 = r := by omega
      rw [e] at hx
      obtain ⟨k, v, rfl⟩ := (hr.is_leaf hx).1 hf
      rw [hl.zero, Nat.zero_add]; exact hr
  · cases l with
    | zero => omega
    | succ l =>
      obtain ⟨k, v, rfl⟩ := (hl.is_leaf (x := x) (by simpa using hx)).1 hf
      rw [hr.zero, Nat.add_zero]; exact hl
theorem join_fork {ns : List Node} {l r : Nat} {L R : T} {x : Node} (hl : Rep ns l L) (hr : Rep ns r R) (h : l = 0 ∨ r = 0) (h0 : 0 < l + r) (hx : ns[l + r - 1]? = some x) (hf : x.leaf = false) : T.join L R = .fork L R := by
  rcases h with rfl | rfl
  · cases r with
    | zero => omega
    | succ r =>
      have e : 0 + (r + 1) - 1 = r := by omega
      rw [e] at hx
      obtain ⟨k, v, rfl⟩ := (hr.is_leaf hx).2 hf
      rw [hl.zero]; rfl
  · cases l with
    | zero => omega
    | succ l =>
      obtain ⟨k, v, rfl⟩ := (hl.is_leaf (x := x) (by simpa using hx)).2 hf
      rw [hr.zero]; rfl
theorem join_two {ns : List Node} {l r : Nat} {L R : T} (hl : Rep ns l L) (hr : Rep ns r R) (h1 : 0 < l) (h2 : 0 < r) : T.join L R = .fork L R := by
  cases hl with
  | nil => omega
  | leaf => cases hr with
    | nil => omega
    | leaf => rfl
    | fork => rfl
  | fork => cases hr with
    | nil => omega
    | leaf => rfl
    | fork => rfl
abbrev WoutS (G : Nat → Option W) (root : Int) (k : Dig) (ns : List Node) (n d : Nat) (S : Nat → Prop) (P : List Node → Nat → Prop) : Prop := PSpec cfg G 57 2 [.ptr 0 0, .int .i64 ((n : Nat) : Int), .int .i64 ((d : Nat) : Int), dW k] [(0, 101, mkW 1 ns.length root), (1, 70, nsW ns)] (MkO root ns S P)
theorem wout_leaf {root : Int} {k k' : Dig} {v' : List UInt8} {ns : List Node} {i d : Nat} {l r : Int} {P : List Node → Nat → Prop} (hx : ns[i]? = some ⟨true, k', v', l, r⟩) (hl : ns.length ≤ 1000000000) : WoutS G root k ns (i + 1) d (fun m => Rep ns m .nil) P := by
  intro R
  have hi := (List.getElem?_eq_some_iff.1 hx).1
  obtain ⟨w, hw, rfl | ⟨_, rfl⟩⟩ := node_all ns hx
  · refine spec_in (fn := Try.f57) rfl rfl rfl (Nat.le_of_ble_eq_true rfl) (fun k0 => ?_)
    refine co_seq ?_
    refine co_region ?_
    refine op_mem rfl rfl ?_
    refine op_pure rfl rfl ?_
    refine op_nil ?_
    refine q_seq ?_
    refine co_seq ?_
    refine co_region ?_
    iterate 6 first | refine op_pure rfl rfl ?_ | refine op_mem rfl rfl ?_
    refine op_nat (i) rfl rfl (by first | rfl | omega) ⟨by omega, by omega⟩ ?_
    refine op_pure rfl (ix_sl (i := i) rfl rfl rfl rfl rfl rfl rfl hi) ?_
    refine op_mem rfl (ld_own rfl rfl rfl hw) ?_
    iterate 2 refine op_mem rfl rfl ?_
    refine op_nil ?_
    refine q_seq ?_
    iterate 2 refine co_seq ?_
    refine co_region ?_
    refine op_pure rfl rfl ?_
    refine op_mem rfl rfl ?_
    refine op_nil ?_
    refine q_seq ?_
    refine co_true rfl ?_
    refine co_seq ?_
    refine co_region ?_
    refine op_pure rfl rfl ?_
    refine op_nil ?_
    refine q_seq ?_
    refine co_ret ?_
    refine q_seqx (by intro h; cases h) ?_
    exact fin_same (m := 0) 8 (.inr rfl) (by show 2 ≤ 4; omega) rfl rfl rfl rfl .nil
  · refine spec_in (fn := Try.f57) rfl rfl rfl (Nat.le_of_ble_eq_true rfl) (fun k0 => ?_)
    refine co_seq ?_
    refine co_region ?_
    refine op_mem rfl rfl ?_
    refine op_pure rfl rfl ?_
    refine op_nil ?_
    refine q_seq ?_
    refine co_seq ?_
    refine co_region ?_
    iterate 6 first | refine op_pure rfl rfl ?_ | refine op_mem rfl rfl ?_
    refine op_nat (i) rfl rfl (by first | rfl | omega) ⟨by omega, by omega⟩ ?_
    refine op_pure rfl (ix_sl (i := i) rfl rfl rfl rfl rfl rfl rfl hi) ?_
    refine op_mem rfl (ld_own rfl rfl rfl hw) ?_
    iterate 2 refine op_mem rfl rfl ?_
    refine op_nil ?_
    refine q_seq ?_
    iterate 2 refine co_seq ?_
    refine co_region ?_
    refine op_pure rfl rfl ?_
    refine op_mem rfl rfl ?_
    refine op_nil ?_
    refine q_seq ?_
    refine co_true rfl ?_
    refine co_seq ?_
    refine co_region ?_
    refine op_pure rfl rfl ?_
    refine op_nil ?_
    refine q_seq ?_
    refine co_ret ?_
    refine q_seqx (by intro h; cases h) ?_
    exact fin_same (m := 0) 8 (.inr rfl) (by show 2 ≤ 4; omega) rfl rfl rfl rfl .nil
theorem min_w (a b : Nat) : W.int .i64 (match ltI (b : Int) (a : Int) with | true => (b : Int) | false => (a : Int)) = W.int .i64 ((min a b : Nat) : Int) := by
  cases h : ltI (b : Int) (a : Int) with
  | true => have := ltI_iff.1 h; simp only; congr 1; omega
  | false => have : ¬ (b : Int) < a := fun q => by rw [ltI_iff.2 q] at h; cases h
             simp only; congr 1; omega
theorem gr_fork0 {ns : List Node} {l r f : Nat} {L R : T} (hok : okN ns) (hl : Rep ns l L) (hr : Rep ns r R) (h : 0 < l + r) : Gr ns (f + 1) (.fork L R) (ns ++ [forkN l r]) (ns.length + 1) := by
  have h1 := gr_fork (ms := []) (f := f) (Nat.zero_le _) (by rw [List.append_nil]; exact hok) (by rw [List.append_nil]; exact hl) (by rw [List.append_nil]; exact hr) h
  rwa [List.append_nil] at h1
theorem wout_fork {root : Int} {k k' : Dig} {v' : List UInt8} {ns : List Node} {i d f l r : Nat} {L R t' : T} (hx : ns[i]? = some ⟨false, k', v', l, r⟩) (hok : okN ns) (hL : Rep ns l L) (hR : Rep ns r R) (hd : d < 256) (hl : ns.length + f + 1 ≤ 1000000000)
    (sp : WoutS G root k ns (if bitN k d = 0 then l else r) (d + 1) (fun m => Rep ns m t') (Gr ns f t')) : WoutS G root k ns (i + 1) d (fun m => Rep ns m (if bitN k d = 0 then .join t' R else .join L t')) (Gr ns (f + 1) (if bitN k d = 0 then .join t' R else .join L t')) := by
  intro R'
  have hi := (List.getElem?_eq_some_iff.1 hx).1
  have b1 := bitN_le k d
  have hc : bitN k d = 0 ∨ bitN k d = 1 := by omega
  have hw := fork_all hx hok
  rcases hc with hc | hc
  · skip
    rw [if_pos hc] at sp
    refine spec_in (fn := Try.f57) rfl rfl rfl (Nat.le_of_ble_eq_true rfl) (fun k0 => ?_)
    refine co_seq ?_
    refine co_region ?_
    refine op_mem rfl rfl ?_
    refine op_pure rfl rfl ?_
    refine op_nil ?_
    refine q_seq ?_
    refine co_seq ?_
    refine co_region ?_
    iterate 6 first | refine op_pure rfl rfl ?_ | refine op_mem rfl rfl ?_
    refine op_nat (i) rfl rfl (by first | rfl | omega) ⟨by omega, by omega⟩ ?_
    refine op_pure rfl (ix_sl (i := i) rfl rfl rfl rfl rfl rfl rfl hi) ?_
    refine op_mem rfl (ld_own rfl rfl rfl hw) ?_
    iterate 2 refine op_mem rfl rfl ?_
    refine op_nil ?_
    refine q_seq ?_
    iterate 2 refine co_seq ?_
    refine co_region ?_
    refine op_pure rfl rfl ?_
    refine op_mem rfl rfl ?_
    refine op_nil ?_
    refine q_seq ?_
    refine co_false rfl ?_
    refine co_skip ?_
    refine q_seq ?_
    refine co_seq ?_
    refine co_region ?_
    refine op_mem rfl rfl ?_
    first | refine op_ps rfl rfl rfl rfl rfl rfl (roads_s _) (by first | rfl | assumption | (simp; done)) (by first | rfl | assumption | (simp; done)) ?_ | refine op_ps rfl rfl rfl rfl rfl rfl (roads_s _) (by first | rfl | assumption | (simp; done)) (by first | rfl | assumption | (simp; done)) ?_
    iterate 2 refine op_mem rfl rfl ?_
    refine op_nil ?_
    refine q_seq ?_
    refine co_seq ?_
    refine co_region ?_
    refine op_mem rfl rfl ?_
    refine op_pure rfl rfl ?_
    refine op_ps rfl rfl rfl rfl rfl rfl (tbit_c k d 0 hd hc) (by first | rfl | assumption | (simp; done)) (by first | rfl | assumption | (simp; done)) ?_
    refine op_pure rfl rfl ?_
    refine op_nil ?_
    refine q_seq ?_
    refine co_seq ?_
    refine co_flow ?_
    iterate 2 refine fl_pure rfl rfl ?_
    first | refine fl_pure rfl (ix_fz rfl rfl rfl rfl rfl rfl rfl (by first | assumption | (simp; done))) ?_ | refine fl_pure rfl (ix_sl rfl rfl rfl rfl rfl rfl rfl (by omega)) ?_ | refine fl_pure rfl (ix_arr rfl rfl rfl rfl rfl rfl (by omega)) ?_ | refine fl_pure rfl rfl ?_
    refine fl_mem rfl rfl (by first | rfl | kernel_rfl) ?_
    refine fl_pure rfl rfl ?_
    refine fl_nat (d + 1) rfl rfl (by first | rfl | omega) ⟨by omega, by omega⟩ ?_
    refine fl_mem rfl rfl (by first | rfl | kernel_rfl) ?_
    skip
    skip
    refine fl_step rfl (step_mkO 1 rfl rfl rfl rfl (by simp) (by omega) (by show 1 < 5; omega) rfl rfl sp ?_ ?_)
    · rintro m hm
      refine ⟨by first | rfl | kernel_rfl, ?_⟩
      skip
      have la := (hm).le
      have lb := ((hR)).le
      have ll : ns.length ≤ 1000000000 := by first | omega | (simp only [List.length_append]; omega)
      refine fl_pure rfl rfl ?_
      refine fl_nil ?_
      refine q_seq ?_
      refine co_seq ?_
      refine co_region ?_
      iterate 2 refine op_pure rfl rfl ?_
      first | refine op_pure rfl (ix_fz rfl rfl rfl rfl rfl rfl rfl (by first | assumption | (simp; done))) ?_ | refine op_pure rfl (ix_sl rfl rfl rfl rfl rfl rfl rfl (by omega)) ?_ | refine op_pure rfl (ix_arr rfl rfl rfl rfl rfl rfl (by omega)) ?_ | refine op_pure rfl rfl ?_
      refine op_mem rfl rfl ?_
      refine op_nil ?_
      refine q_seq ?_
      iterate 2 refine co_seq ?_
      refine co_region ?_
      first | refine op_pure rfl (ix_fz rfl rfl rfl rfl rfl rfl rfl (by first | assumption | (simp; done))) ?_ | refine op_pure rfl (ix_sl rfl rfl rfl rfl rfl rfl rfl (by omega)) ?_ | refine op_pure rfl (ix_arr rfl rfl rfl rfl rfl rfl (by omega)) ?_ | refine op_pure rfl rfl ?_
      refine op_mem rfl rfl ?_
      first | refine op_pure rfl (ix_fz rfl rfl rfl rfl rfl rfl rfl (by first | assumption | (simp; done))) ?_ | refine op_pure rfl (ix_sl rfl rfl rfl rfl rfl rfl rfl (by omega)) ?_ | refine op_pure rfl (ix_arr rfl rfl rfl rfl rfl rfl (by omega)) ?_ | refine op_pure rfl rfl ?_
      refine op_mem rfl rfl ?_
      refine op_nat (m + r) rfl rfl (by first | rfl | omega) ⟨by omega, by omega⟩ ?_
      refine op_pure rfl rfl ?_
      refine op_nil ?_
      refine q_seq ?_
      refine co_seq ?_
      refine co_region ?_
      first | refine op_pure rfl (ix_fz rfl rfl rfl rfl rfl rfl rfl (by first | assumption | (simp; done))) ?_ | refine op_pure rfl (ix_sl rfl rfl rfl rfl rfl rfl rfl (by omega)) ?_ | refine op_pure rfl (ix_arr rfl rfl rfl rfl rfl rfl (by omega)) ?_ | refine op_pure rfl rfl ?_
      refine op_mem rfl rfl ?_
      first | refine op_pure rfl (ix_fz rfl rfl rfl rfl rfl rfl rfl (by first | assumption | (simp; done))) ?_ | refine op_pure rfl (ix_sl rfl rfl rfl rfl rfl rfl rfl (by omega)) ?_ | refine op_pure rfl (ix_arr rfl rfl rfl rfl rfl rfl (by omega)) ?_ | refine op_pure rfl rfl ?_
      refine op_mem rfl rfl ?_
      refine op_val (w' := .int .i64 ((min m r : Nat) : Int)) rfl rfl (min_w _ _) ?_
      refine op_dec rfl rfl (by first | exact ltI_iff | exact eqI_iff | exact nlt_iff | exact neq_iff | exact dec_iff | exact bool_iff) (fun h1 => ?_) (fun h1 => ?_)
      · have hz : m = 0 ∨ r = 0 := by omega
        iterate 2 refine op_pure rfl rfl ?_
        refine op_dec rfl rfl (by first | exact ltI_iff | exact eqI_iff | exact nlt_iff | exact neq_iff | exact dec_iff | exact bool_iff) (fun h2 => ?_) (fun h2 => ?_)
        · iterate 14 first | refine op_pure rfl rfl ?_ | refine op_skip rfl ?_ | refine op_nil ?_
          refine q_seq ?_
          refine co_true rfl ?_
          refine co_seq ?_
          refine co_region ?_
          iterate 2 refine op_pure rfl rfl ?_
          refine op_nil ?_
          refine q_seq ?_
          refine co_ret ?_
          refine q_seqx (by intro h; cases h) ?_
          exact fin_same (m := m + r) 8 (.inr rfl) (by show 2 ≤ 5; omega) rfl rfl rfl rfl (by rw [if_pos hc]; exact join_nil hm (hR) (by omega))
        · obtain ⟨y, hy⟩ : ∃ y, ns[m + r - 1]? = some y := ⟨_, List.getElem?_eq_getElem (by omega)⟩
          iterate 7 first | refine op_pure rfl rfl ?_ | refine op_mem rfl rfl ?_
          refine op_nat (m + r - 1) rfl rfl (by first | rfl | omega) ⟨by omega, by omega⟩ ?_
          refine op_pure rfl (ix_sl (i := m + r - 1) rfl rfl rfl rfl rfl rfl rfl (by omega)) ?_
          refine op_pure rfl rfl ?_
          refine op_mem rfl (ld_own rfl rfl rfl (node_leaf ns hy)) ?_
          iterate 2 refine op_pure rfl rfl ?_
          refine op_nil ?_
          refine q_seq ?_
          refine co_dec rfl (by first | exact ltI_iff | exact eqI_iff | exact nlt_iff | exact neq_iff | exact dec_iff | exact bool_iff) (fun h3 => ?_) (fun h3 => ?_)
          · refine co_seq ?_
            refine co_region ?_
            iterate 3 first | refine op_pure rfl rfl ?_ | refine op_nil ?_
            refine q_seq ?_
            refine co_ret ?_
            refine q_seqx (by intro h; cases h) ?_
            exact fin_same (m := m + r) 8 (.inr rfl) (by show 2 ≤ 5; omega) rfl rfl rfl rfl (by rw [if_pos hc]; exact join_leaf hm (hR) hz (by omega) hy h3)
          · refine co_skip ?_
            refine q_seq ?_
            refine co_seq ?_
            refine co_region ?_
            refine op_pure rfl rfl ?_
            refine op_mem rfl rfl ?_
            first | refine op_ps rfl rfl rfl rfl rfl rfl (fork_s _ _) (by first | rfl | assumption | (simp; done)) (by first | rfl | assumption | (simp; done)) ?_ | refine op_ps rfl rfl rfl rfl rfl rfl (fork_s _ _) (by first | rfl | assumption | (simp; done)) (by first | rfl | assumption | (simp; done)) ?_
            (refine op_step rfl (step_mk 1 rfl rfl rfl rfl (by simp) (by omega) (by show 1 < 5; omega) rfl rfl (node_m _ root _ (by first | omega | (simp only [List.length_append]; omega))) ?_); rintro ns2 m2 ⟨rfl, rfl⟩)
            refine op_pure rfl rfl ?_
            refine op_nil ?_
            refine q_seq ?_
            refine co_ret ?_
            exact fin_mkO 8 5 (.inr rfl) (by omega) (by show 5 < 6; omega) rfl rfl rfl rfl (by rw [if_pos hc, join_fork hm (hR) hz (by omega) hy (by simpa using h3)]; exact gr_fork0 hok hm (hR) (by omega))
      · iterate 17 first | refine op_pure rfl rfl ?_ | refine op_skip rfl ?_ | refine op_nil ?_
        refine q_seq ?_
        refine co_false rfl ?_
        refine co_skip ?_
        refine q_seq ?_
        refine co_seq ?_
        refine co_region ?_
        refine op_pure rfl rfl ?_
        refine op_mem rfl rfl ?_
        first | refine op_ps rfl rfl rfl rfl rfl rfl (fork_s _ _) (by first | rfl | assumption | (simp; done)) (by first | rfl | assumption | (simp; done)) ?_ | refine op_ps rfl rfl rfl rfl rfl rfl (fork_s _ _) (by first | rfl | assumption | (simp; done)) (by first | rfl | assumption | (simp; done)) ?_
        (refine op_step rfl (step_mk 1 rfl rfl rfl rfl (by simp) (by omega) (by show 1 < 5; omega) rfl rfl (node_m _ root _ (by first | omega | (simp only [List.length_append]; omega))) ?_); rintro ns2 m2 ⟨rfl, rfl⟩)
        refine op_pure rfl rfl ?_
        refine op_nil ?_
        refine q_seq ?_
        refine co_ret ?_
        exact fin_mkO 8 5 (.inr rfl) (by omega) (by show 5 < 6; omega) rfl rfl rfl rfl (by rw [if_pos hc, join_two hm (hR) (by omega) (by omega)]; exact gr_fork0 hok hm (hR) (by omega))
    · rintro ns1 m ⟨⟨ms, rfl, hms⟩, hok1, hm⟩
      refine ⟨by first | rfl | kernel_rfl, ?_⟩
      skip
      have la := (hm).le
      have lb := ((hR.app ms)).le
      have ll : (ns ++ ms).length ≤ 1000000000 := by first | omega | (simp only [List.length_append]; omega)
      refine fl_pure rfl rfl ?_
      refine fl_nil ?_
      refine q_seq ?_
      refine co_seq ?_
      refine co_region ?_
      iterate 2 refine op_pure rfl rfl ?_
      first | refine op_pure rfl (ix_fz rfl rfl rfl rfl rfl rfl rfl (by first | assumption | (simp; done))) ?_ | refine op_pure rfl (ix_sl rfl rfl rfl rfl rfl rfl rfl (by omega)) ?_ | refine op_pure rfl (ix_arr rfl rfl rfl rfl rfl rfl (by omega)) ?_ | refine op_pure rfl rfl ?_
      refine op_mem rfl rfl ?_
      refine op_nil ?_
      refine q_seq ?_
      iterate 2 refine co_seq ?_
      refine co_region ?_
      first | refine op_pure rfl (ix_fz rfl rfl rfl rfl rfl rfl rfl (by first | assumption | (simp; done))) ?_ | refine op_pure rfl (ix_sl rfl rfl rfl rfl rfl rfl rfl (by omega)) ?_ | refine op_pure rfl (ix_arr rfl rfl rfl rfl rfl rfl (by omega)) ?_ | refine op_pure rfl rfl ?_
      refine op_mem rfl rfl ?_
      first | refine op_pure rfl (ix_fz rfl rfl rfl rfl rfl rfl rfl (by first | assumption | (simp; done))) ?_ | refine op_pure rfl (ix_sl rfl rfl rfl rfl rfl rfl rfl (by omega)) ?_ | refine op_pure rfl (ix_arr rfl rfl rfl rfl rfl rfl (by omega)) ?_ | refine op_pure rfl rfl ?_
      refine op_mem rfl rfl ?_
      refine op_nat (m + r) rfl rfl (by first | rfl | omega) ⟨by omega, by omega⟩ ?_
      refine op_pure rfl rfl ?_
      refine op_nil ?_
      refine q_seq ?_
      refine co_seq ?_
      refine co_region ?_
      first | refine op_pure rfl (ix_fz rfl rfl rfl rfl rfl rfl rfl (by first | assumption | (simp; done))) ?_ | refine op_pure rfl (ix_sl rfl rfl rfl rfl rfl rfl rfl (by omega)) ?_ | refine op_pure rfl (ix_arr rfl rfl rfl rfl rfl rfl (by omega)) ?_ | refine op_pure rfl rfl ?_
      refine op_mem rfl rfl ?_
      first | refine op_pure rfl (ix_fz rfl rfl rfl rfl rfl rfl rfl (by first | assumption | (simp; done))) ?_ | refine op_pure rfl (ix_sl rfl rfl rfl rfl rfl rfl rfl (by omega)) ?_ | refine op_pure rfl (ix_arr rfl rfl rfl rfl rfl rfl (by omega)) ?_ | refine op_pure rfl rfl ?_
      refine op_mem rfl rfl ?_
      refine op_val (w' := .int .i64 ((min m r : Nat) : Int)) rfl rfl (min_w _ _) ?_
      refine op_dec rfl rfl (by first | exact ltI_iff | exact eqI_iff | exact nlt_iff | exact neq_iff | exact dec_iff | exact bool_iff) (fun h1 => ?_) (fun h1 => ?_)
      · have hz : m = 0 ∨ r = 0 := by omega
        iterate 2 refine op_pure rfl rfl ?_
        refine op_dec rfl rfl (by first | exact ltI_iff | exact eqI_iff | exact nlt_iff | exact neq_iff | exact dec_iff | exact bool_iff) (fun h2 => ?_) (fun h2 => ?_)
        · iterate 14 first | refine op_pure rfl rfl ?_ | refine op_skip rfl ?_ | refine op_nil ?_
          refine q_seq ?_
          refine co_true rfl ?_
          refine co_seq ?_
          refine co_region ?_
          iterate 2 refine op_pure rfl rfl ?_
          refine op_nil ?_
          refine q_seq ?_
          refine co_ret ?_
          refine q_seqx (by intro h; cases h) ?_
          exact fin_mkO (m := m + r) 8 5 (.inr rfl) (by omega) (by show 5 < 6; omega) rfl rfl rfl rfl ⟨⟨ms, rfl, by omega⟩, hok1, by rw [if_pos hc]; exact join_nil hm (hR.app ms) (by omega)⟩
        · obtain ⟨y, hy⟩ : ∃ y, (ns ++ ms)[m + r - 1]? = some y := ⟨_, List.getElem?_eq_getElem (by omega)⟩
          iterate 7 first | refine op_pure rfl rfl ?_ | refine op_mem rfl rfl ?_
          refine op_nat (m + r - 1) rfl rfl (by first | rfl | omega) ⟨by omega, by omega⟩ ?_
          refine op_pure rfl (ix_sl (i := m + r - 1) rfl rfl rfl rfl rfl rfl rfl (by omega)) ?_
          refine op_pure rfl rfl ?_
          refine op_mem rfl (ld_own rfl rfl rfl (node_leaf (ns ++ ms) hy)) ?_
          iterate 2 refine op_pure rfl rfl ?_
          refine op_nil ?_
          refine q_seq ?_
          refine co_dec rfl (by first | exact ltI_iff | exact eqI_iff | exact nlt_iff | exact neq_iff | exact dec_iff | exact bool_iff) (fun h3 => ?_) (fun h3 => ?_)
          · refine co_seq ?_
            refine co_region ?_
            iterate 3 first | refine op_pure rfl rfl ?_ | refine op_nil ?_
            refine q_seq ?_
            refine co_ret ?_
            refine q_seqx (by intro h; cases h) ?_
            exact fin_mkO (m := m + r) 8 5 (.inr rfl) (by omega) (by show 5 < 6; omega) rfl rfl rfl rfl ⟨⟨ms, rfl, by omega⟩, hok1, by rw [if_pos hc]; exact join_leaf hm (hR.app ms) hz (by omega) hy h3⟩
          · refine co_skip ?_
            refine q_seq ?_
            refine co_seq ?_
            refine co_region ?_
            refine op_pure rfl rfl ?_
            refine op_mem rfl rfl ?_
            first | refine op_ps rfl rfl rfl rfl rfl rfl (fork_s _ _) (by first | rfl | assumption | (simp; done)) (by first | rfl | assumption | (simp; done)) ?_ | refine op_ps rfl rfl rfl rfl rfl rfl (fork_s _ _) (by first | rfl | assumption | (simp; done)) (by first | rfl | assumption | (simp; done)) ?_
            (refine op_step rfl (step_mk 5 rfl rfl rfl rfl (by simp) (by omega) (by show 5 < 6; omega) rfl rfl (node_m _ root _ (by first | omega | (simp only [List.length_append]; omega))) ?_); rintro ns2 m2 ⟨rfl, rfl⟩)
            refine op_pure rfl rfl ?_
            refine op_nil ?_
            refine q_seq ?_
            refine co_ret ?_
            exact fin_mkO 8 6 (.inr rfl) (by omega) (by show 6 < 7; omega) rfl rfl rfl rfl (by rw [if_pos hc, join_fork hm (hR.app ms) hz (by omega) hy (by simpa using h3)]; exact gr_fork hms hok1 hm (hR.app ms) (by omega))
      · iterate 17 first | refine op_pure rfl rfl ?_ | refine op_skip rfl ?_ | refine op_nil ?_
        refine q_seq ?_
        refine co_false rfl ?_
        refine co_skip ?_
        refine q_seq ?_
        refine co_seq ?_
        refine co_region ?_
        refine op_pure rfl rfl ?_
        refine op_mem rfl rfl ?_
        first | refine op_ps rfl rfl rfl rfl rfl rfl (fork_s _ _) (by first | rfl | assumption | (simp; done)) (by first | rfl | assumption | (simp; done)) ?_ | refine op_ps rfl rfl rfl rfl rfl rfl (fork_s _ _) (by first | rfl | assumption | (simp; done)) (by first | rfl | assumption | (simp; done)) ?_
        (refine op_step rfl (step_mk 5 rfl rfl rfl rfl (by simp) (by omega) (by show 5 < 6; omega) rfl rfl (node_m _ root _ (by first | omega | (simp only [List.length_append]; omega))) ?_); rintro ns2 m2 ⟨rfl, rfl⟩)
        refine op_pure rfl rfl ?_
        refine op_nil ?_
        refine q_seq ?_
        refine co_ret ?_
        exact fin_mkO 8 6 (.inr rfl) (by omega) (by show 6 < 7; omega) rfl rfl rfl rfl (by rw [if_pos hc, join_two hm (hR.app ms) (by omega) (by omega)]; exact gr_fork hms hok1 hm (hR.app ms) (by omega))
  · skip
    rw [if_neg (by omega)] at sp
    refine spec_in (fn := Try.f57) rfl rfl rfl (Nat.le_of_ble_eq_true rfl) (fun k0 => ?_)
    refine co_seq ?_
    refine co_region ?_
    refine op_mem rfl rfl ?_
    refine op_pure rfl rfl ?_
    refine op_nil ?_
    refine q_seq ?_
    refine co_seq ?_
    refine co_region ?_
    iterate 6 first | refine op_pure rfl rfl ?_ | refine op_mem rfl rfl ?_
    refine op_nat (i) rfl rfl (by first | rfl | omega) ⟨by omega, by omega⟩ ?_
    refine op_pure rfl (ix_sl (i := i) rfl rfl rfl rfl rfl rfl rfl hi) ?_
    refine op_mem rfl (ld_own rfl rfl rfl hw) ?_
    iterate 2 refine op_mem rfl rfl ?_
    refine op_nil ?_
    refine q_seq ?_
    iterate 2 refine co_seq ?_
    refine co_region ?_
    refine op_pure rfl rfl ?_
    refine op_mem rfl rfl ?_
    refine op_nil ?_
    refine q_seq ?_
    refine co_false rfl ?_
    refine co_skip ?_
    refine q_seq ?_
    refine co_seq ?_
    refine co_region ?_
    refine op_mem rfl rfl ?_
    first | refine op_ps rfl rfl rfl rfl rfl rfl (roads_s _) (by first | rfl | assumption | (simp; done)) (by first | rfl | assumption | (simp; done)) ?_ | refine op_ps rfl rfl rfl rfl rfl rfl (roads_s _) (by first | rfl | assumption | (simp; done)) (by first | rfl | assumption | (simp; done)) ?_
    iterate 2 refine op_mem rfl rfl ?_
    refine op_nil ?_
    refine q_seq ?_
    refine co_seq ?_
    refine co_region ?_
    refine op_mem rfl rfl ?_
    refine op_pure rfl rfl ?_
    refine op_ps rfl rfl rfl rfl rfl rfl (tbit_c k d 1 hd hc) (by first | rfl | assumption | (simp; done)) (by first | rfl | assumption | (simp; done)) ?_
    refine op_pure rfl rfl ?_
    refine op_nil ?_
    refine q_seq ?_
    refine co_seq ?_
    refine co_flow ?_
    iterate 2 refine fl_pure rfl rfl ?_
    first | refine fl_pure rfl (ix_fz rfl rfl rfl rfl rfl rfl rfl (by first | assumption | (simp; done))) ?_ | refine fl_pure rfl (ix_sl rfl rfl rfl rfl rfl rfl rfl (by omega)) ?_ | refine fl_pure rfl (ix_arr rfl rfl rfl rfl rfl rfl (by omega)) ?_ | refine fl_pure rfl rfl ?_
    refine fl_mem rfl rfl (by first | rfl | kernel_rfl) ?_
    refine fl_pure rfl rfl ?_
    refine fl_nat (d + 1) rfl rfl (by first | rfl | omega) ⟨by omega, by omega⟩ ?_
    refine fl_mem rfl rfl (by first | rfl | kernel_rfl) ?_
    skip
    skip
    refine fl_step rfl (step_mkO 1 rfl rfl rfl rfl (by simp) (by omega) (by show 1 < 5; omega) rfl rfl sp ?_ ?_)
    · rintro m hm
      refine ⟨by first | rfl | kernel_rfl, ?_⟩
      skip
      have la := ((hL)).le
      have lb := (hm).le
      have ll : ns.length ≤ 1000000000 := by first | omega | (simp only [List.length_append]; omega)
      refine fl_pure rfl rfl ?_
      refine fl_nil ?_
      refine q_seq ?_
      refine co_seq ?_
      refine co_region ?_
      iterate 2 refine op_pure rfl rfl ?_
      first | refine op_pure rfl (ix_fz rfl rfl rfl rfl rfl rfl rfl (by first | assumption | (simp; done))) ?_ | refine op_pure rfl (ix_sl rfl rfl rfl rfl rfl rfl rfl (by omega)) ?_ | refine op_pure rfl (ix_arr rfl rfl rfl rfl rfl rfl (by omega)) ?_ | refine op_pure rfl rfl ?_
      refine op_mem rfl rfl ?_
      refine op_nil ?_
      refine q_seq ?_
      iterate 2 refine co_seq ?_
      refine co_region ?_
      first | refine op_pure rfl (ix_fz rfl rfl rfl rfl rfl rfl rfl (by first | assumption | (simp; done))) ?_ | refine op_pure rfl (ix_sl rfl rfl rfl rfl rfl rfl rfl (by omega)) ?_ | refine op_pure rfl (ix_arr rfl rfl rfl rfl rfl rfl (by omega)) ?_ | refine op_pure rfl rfl ?_
      refine op_mem rfl rfl ?_
      first | refine op_pure rfl (ix_fz rfl rfl rfl rfl rfl rfl rfl (by first | assumption | (simp; done))) ?_ | refine op_pure rfl (ix_sl rfl rfl rfl rfl rfl rfl rfl (by omega)) ?_ | refine op_pure rfl (ix_arr rfl rfl rfl rfl rfl rfl (by omega)) ?_ | refine op_pure rfl rfl ?_
      refine op_mem rfl rfl ?_
      refine op_nat (l + m) rfl rfl (by first | rfl | omega) ⟨by omega, by omega⟩ ?_
      refine op_pure rfl rfl ?_
      refine op_nil ?_
      refine q_seq ?_
      refine co_seq ?_
      refine co_region ?_
      first | refine op_pure rfl (ix_fz rfl rfl rfl rfl rfl rfl rfl (by first | assumption | (simp; done))) ?_ | refine op_pure rfl (ix_sl rfl rfl rfl rfl rfl rfl rfl (by omega)) ?_ | refine op_pure rfl (ix_arr rfl rfl rfl rfl rfl rfl (by omega)) ?_ | refine op_pure rfl rfl ?_
      refine op_mem rfl rfl ?_
      first | refine op_pure rfl (ix_fz rfl rfl rfl rfl rfl rfl rfl (by first | assumption | (simp; done))) ?_ | refine op_pure rfl (ix_sl rfl rfl rfl rfl rfl rfl rfl (by omega)) ?_ | refine op_pure rfl (ix_arr rfl rfl rfl rfl rfl rfl (by omega)) ?_ | refine op_pure rfl rfl ?_
      refine op_mem rfl rfl ?_
      refine op_val (w' := .int .i64 ((min l m : Nat) : Int)) rfl rfl (min_w _ _) ?_
      refine op_dec rfl rfl (by first | exact ltI_iff | exact eqI_iff | exact nlt_iff | exact neq_iff | exact dec_iff | exact bool_iff) (fun h1 => ?_) (fun h1 => ?_)
      · have hz : l = 0 ∨ m = 0 := by omega
        iterate 2 refine op_pure rfl rfl ?_
        refine op_dec rfl rfl (by first | exact ltI_iff | exact eqI_iff | exact nlt_iff | exact neq_iff | exact dec_iff | exact bool_iff) (fun h2 => ?_) (fun h2 => ?_)
        · iterate 14 first | refine op_pure rfl rfl ?_ | refine op_skip rfl ?_ | refine op_nil ?_
          refine q_seq ?_
          refine co_true rfl ?_
          refine co_seq ?_
          refine co_region ?_
          iterate 2 refine op_pure rfl rfl ?_
          refine op_nil ?_
          refine q_seq ?_
          refine co_ret ?_
          refine q_seqx (by intro h; cases h) ?_
          exact fin_same (m := l + m) 8 (.inr rfl) (by show 2 ≤ 5; omega) rfl rfl rfl rfl (by rw [if_neg (by omega)]; exact join_nil (hL) hm (by omega))
        · obtain ⟨y, hy⟩ : ∃ y, ns[l + m - 1]? = some y := ⟨_, List.getElem?_eq_getElem (by omega)⟩
          iterate 7 first | refine op_pure rfl rfl ?_ | refine op_mem rfl rfl ?_
          refine op_nat (l + m - 1) rfl rfl (by first | rfl | omega) ⟨by omega, by omega⟩ ?_
          refine op_pure rfl (ix_sl (i := l + m - 1) rfl rfl rfl rfl rfl rfl rfl (by omega)) ?_
          refine op_pure rfl rfl ?_
          refine op_mem rfl (ld_own rfl rfl rfl (node_leaf ns hy)) ?_
          iterate 2 refine op_pure rfl rfl ?_
          refine op_nil ?_
          refine q_seq ?_
          refine co_dec rfl (by first | exact ltI_iff | exact eqI_iff | exact nlt_iff | exact neq_iff | exact dec_iff | exact bool_iff) (fun h3 => ?_) (fun h3 => ?_)
          · refine co_seq ?_
            refine co_region ?_
            iterate 3 first | refine op_pure rfl rfl ?_ | refine op_nil ?_
            refine q_seq ?_
            refine co_ret ?_
            refine q_seqx (by intro h; cases h) ?_
            exact fin_same (m := l + m) 8 (.inr rfl) (by show 2 ≤ 5; omega) rfl rfl rfl rfl (by rw [if_neg (by omega)]; exact join_leaf (hL) hm hz (by omega) hy h3)
          · refine co_skip ?_
            refine q_seq ?_
            refine co_seq ?_
            refine co_region ?_
            refine op_pure rfl rfl ?_
            refine op_mem rfl rfl ?_
            first | refine op_ps rfl rfl rfl rfl rfl rfl (fork_s _ _) (by first | rfl | assumption | (simp; done)) (by first | rfl | assumption | (simp; done)) ?_ | refine op_ps rfl rfl rfl rfl rfl rfl (fork_s _ _) (by first | rfl | assumption | (simp; done)) (by first | rfl | assumption | (simp; done)) ?_
            (refine op_step rfl (step_mk 1 rfl rfl rfl rfl (by simp) (by omega) (by show 1 < 5; omega) rfl rfl (node_m _ root _ (by first | omega | (simp only [List.length_append]; omega))) ?_); rintro ns2 m2 ⟨rfl, rfl⟩)
            refine op_pure rfl rfl ?_
            refine op_nil ?_
            refine q_seq ?_
            refine co_ret ?_
            exact fin_mkO 8 5 (.inr rfl) (by omega) (by show 5 < 6; omega) rfl rfl rfl rfl (by rw [if_neg (by omega), join_fork (hL) hm hz (by omega) hy (by simpa using h3)]; exact gr_fork0 hok (hL) hm (by omega))
      · iterate 17 first | refine op_pure rfl rfl ?_ | refine op_skip rfl ?_ | refine op_nil ?_
        refine q_seq ?_
        refine co_false rfl ?_
        refine co_skip ?_
        refine q_seq ?_
        refine co_seq ?_
        refine co_region ?_
        refine op_pure rfl rfl ?_
        refine op_mem rfl rfl ?_
        first | refine op_ps rfl rfl rfl rfl rfl rfl (fork_s _ _) (by first | rfl | assumption | (simp; done)) (by first | rfl | assumption | (simp; done)) ?_ | refine op_ps rfl rfl rfl rfl rfl rfl (fork_s _ _) (by first | rfl | assumption | (simp; done)) (by first | rfl | assumption | (simp; done)) ?_
        (refine op_step rfl (step_mk 1 rfl rfl rfl rfl (by simp) (by omega) (by show 1 < 5; omega) rfl rfl (node_m _ root _ (by first | omega | (simp only [List.length_append]; omega))) ?_); rintro ns2 m2 ⟨rfl, rfl⟩)
        refine op_pure rfl rfl ?_
        refine op_nil ?_
        refine q_seq ?_
        refine co_ret ?_
        exact fin_mkO 8 5 (.inr rfl) (by omega) (by show 5 < 6; omega) rfl rfl rfl rfl (by rw [if_neg (by omega), join_two (hL) hm (by omega) (by omega)]; exact gr_fork0 hok (hL) hm (by omega))
    · rintro ns1 m ⟨⟨ms, rfl, hms⟩, hok1, hm⟩
      refine ⟨by first | rfl | kernel_rfl, ?_⟩
      skip
      have la := ((hL.app ms)).le
      have lb := (hm).le
      have ll : (ns ++ ms).length ≤ 1000000000 := by first | omega | (simp only [List.length_append]; omega)
      refine fl_pure rfl rfl ?_
      refine fl_nil ?_
      refine q_seq ?_
      refine co_seq ?_
      refine co_region ?_
      iterate 2 refine op_pure rfl rfl ?_
      first | refine op_pure rfl (ix_fz rfl rfl rfl rfl rfl rfl rfl (by first | assumption | (simp; done))) ?_ | refine op_pure rfl (ix_sl rfl rfl rfl rfl rfl rfl rfl (by omega)) ?_ | refine op_pure rfl (ix_arr rfl rfl rfl rfl rfl rfl (by omega)) ?_ | refine op_pure rfl rfl ?_
      refine op_mem rfl rfl ?_
      refine op_nil ?_
      refine q_seq ?_
      iterate 2 refine co_seq ?_
      refine co_region ?_
      first | refine op_pure rfl (ix_fz rfl rfl rfl rfl rfl rfl rfl (by first | assumption | (simp; done))) ?_ | refine op_pure rfl (ix_sl rfl rfl rfl rfl rfl rfl rfl (by omega)) ?_ | refine op_pure rfl (ix_arr rfl rfl rfl rfl rfl rfl (by omega)) ?_ | refine op_pure rfl rfl ?_
      refine op_mem rfl rfl ?_
      first | refine op_pure rfl (ix_fz rfl rfl rfl rfl rfl rfl rfl (by first | assumption | (simp; done))) ?_ | refine op_pure rfl (ix_sl rfl rfl rfl rfl rfl rfl rfl (by omega)) ?_ | refine op_pure rfl (ix_arr rfl rfl rfl rfl rfl rfl (by omega)) ?_ | refine op_pure rfl rfl ?_
      refine op_mem rfl rfl ?_
      refine op_nat (l + m) rfl rfl (by first | rfl | omega) ⟨by omega, by omega⟩ ?_
      refine op_pure rfl rfl ?_
      refine op_nil ?_
      refine q_seq ?_
      refine co_seq ?_
      refine co_region ?_
      first | refine op_pure rfl (ix_fz rfl rfl rfl rfl rfl rfl rfl (by first | assumption | (simp; done))) ?_ | refine op_pure rfl (ix_sl rfl rfl rfl rfl rfl rfl rfl (by omega)) ?_ | refine op_pure rfl (ix_arr rfl rfl rfl rfl rfl rfl (by omega)) ?_ | refine op_pure rfl rfl ?_
      refine op_mem rfl rfl ?_
      first | refine op_pure rfl (ix_fz rfl rfl rfl rfl rfl rfl rfl (by first | assumption | (simp; done))) ?_ | refine op_pure rfl (ix_sl rfl rfl rfl rfl rfl rfl rfl (by omega)) ?_ | refine op_pure rfl (ix_arr rfl rfl rfl rfl rfl rfl (by omega)) ?_ | refine op_pure rfl rfl ?_
      refine op_mem rfl rfl ?_
      refine op_val (w' := .int .i64 ((min l m : Nat) : Int)) rfl rfl (min_w _ _) ?_
      refine op_dec rfl rfl (by first | exact ltI_iff | exact eqI_iff | exact nlt_iff | exact neq_iff | exact dec_iff | exact bool_iff) (fun h1 => ?_) (fun h1 => ?_)
      · have hz : l = 0 ∨ m = 0 := by omega
        iterate 2 refine op_pure rfl rfl ?_
        refine op_dec rfl rfl (by first | exact ltI_iff | exact eqI_iff | exact nlt_iff | exact neq_iff | exact dec_iff | exact bool_iff) (fun h2 => ?_) (fun h2 => ?_)
        · iterate 14 first | refine op_pure rfl rfl ?_ | refine op_skip rfl ?_ | refine op_nil ?_
          refine q_seq ?_
          refine co_true rfl ?_
          refine co_seq ?_
          refine co_region ?_
          iterate 2 refine op_pure rfl rfl ?_
          refine op_nil ?_
          refine q_seq ?_
          refine co_ret ?_
          refine q_seqx (by intro h; cases h) ?_
          exact fin_mkO (m := l + m) 8 5 (.inr rfl) (by omega) (by show 5 < 6; omega) rfl rfl rfl rfl ⟨⟨ms, rfl, by omega⟩, hok1, by rw [if_neg (by omega)]; exact join_nil (hL.app ms) hm (by omega)⟩
        · obtain ⟨y, hy⟩ : ∃ y, (ns ++ ms)[l + m - 1]? = some y := ⟨_, List.getElem?_eq_getElem (by omega)⟩
          iterate 7 first | refine op_pure rfl rfl ?_ | refine op_mem rfl rfl ?_
          refine op_nat (l + m - 1) rfl rfl (by first | rfl | omega) ⟨by omega, by omega⟩ ?_
          refine op_pure rfl (ix_sl (i := l + m - 1) rfl rfl rfl rfl rfl rfl rfl (by omega)) ?_
          refine op_pure rfl rfl ?_
          refine op_mem rfl (ld_own rfl rfl rfl (node_leaf (ns ++ ms) hy)) ?_
          iterate 2 refine op_pure rfl rfl ?_
          refine op_nil ?_
          refine q_seq ?_
          refine co_dec rfl (by first | exact ltI_iff | exact eqI_iff | exact nlt_iff | exact neq_iff | exact dec_iff | exact bool_iff) (fun h3 => ?_) (fun h3 => ?_)
          · refine co_seq ?_
            refine co_region ?_
            iterate 3 first | refine op_pure rfl rfl ?_ | refine op_nil ?_
            refine q_seq ?_
            refine co_ret ?_
            refine q_seqx (by intro h; cases h) ?_
            exact fin_mkO (m := l + m) 8 5 (.inr rfl) (by omega) (by show 5 < 6; omega) rfl rfl rfl rfl ⟨⟨ms, rfl, by omega⟩, hok1, by rw [if_neg (by omega)]; exact join_leaf (hL.app ms) hm hz (by omega) hy h3⟩
          · refine co_skip ?_
            refine q_seq ?_
            refine co_seq ?_
            refine co_region ?_
            refine op_pure rfl rfl ?_
            refine op_mem rfl rfl ?_
            first | refine op_ps rfl rfl rfl rfl rfl rfl (fork_s _ _) (by first | rfl | assumption | (simp; done)) (by first | rfl | assumption | (simp; done)) ?_ | refine op_ps rfl rfl rfl rfl rfl rfl (fork_s _ _) (by first | rfl | assumption | (simp; done)) (by first | rfl | assumption | (simp; done)) ?_
            (refine op_step rfl (step_mk 5 rfl rfl rfl rfl (by simp) (by omega) (by show 5 < 6; omega) rfl rfl (node_m _ root _ (by first | omega | (simp only [List.length_append]; omega))) ?_); rintro ns2 m2 ⟨rfl, rfl⟩)
            refine op_pure rfl rfl ?_
            refine op_nil ?_
            refine q_seq ?_
            refine co_ret ?_
            exact fin_mkO 8 6 (.inr rfl) (by omega) (by show 6 < 7; omega) rfl rfl rfl rfl (by rw [if_neg (by omega), join_fork (hL.app ms) hm hz (by omega) hy (by simpa using h3)]; exact gr_fork hms hok1 (hL.app ms) hm (by omega))
      · iterate 17 first | refine op_pure rfl rfl ?_ | refine op_skip rfl ?_ | refine op_nil ?_
        refine q_seq ?_
        refine co_false rfl ?_
        refine co_skip ?_
        refine q_seq ?_
        refine co_seq ?_
        refine co_region ?_
        refine op_pure rfl rfl ?_
        refine op_mem rfl rfl ?_
        first | refine op_ps rfl rfl rfl rfl rfl rfl (fork_s _ _) (by first | rfl | assumption | (simp; done)) (by first | rfl | assumption | (simp; done)) ?_ | refine op_ps rfl rfl rfl rfl rfl rfl (fork_s _ _) (by first | rfl | assumption | (simp; done)) (by first | rfl | assumption | (simp; done)) ?_
        (refine op_step rfl (step_mk 5 rfl rfl rfl rfl (by simp) (by omega) (by show 5 < 6; omega) rfl rfl (node_m _ root _ (by first | omega | (simp only [List.length_append]; omega))) ?_); rintro ns2 m2 ⟨rfl, rfl⟩)
        refine op_pure rfl rfl ?_
        refine op_nil ?_
        refine q_seq ?_
        refine co_ret ?_
        exact fin_mkO 8 6 (.inr rfl) (by omega) (by show 6 < 7; omega) rfl rfl rfl rfl (by rw [if_neg (by omega), join_two (hL.app ms) hm (by omega) (by omega)]; exact gr_fork hms hok1 (hL.app ms) hm (by omega))
theorem find_fork {k : Dig} {d : Nat} {L R : T} : T.find k d (.fork L R) = (if bitN k d = 0 then L.find k (d + 1) else R.find k (d + 1)) := rfl
theorem wout_s (root : Int) (k : Dig) (ns : List Node) (hok : okN ns) : ∀ (t : T) (n d f : Nat) (b : Dig), Rep ns n t → t.ok d b = true → d + f = 256 → (t.find k d).isSome = true → ns.length + f + 1 ≤ 1000000000 → WoutS G root k ns n d (fun m => Rep ns m (T.drop k d t)) (Gr ns f (T.drop k d t)) := by
  intro t
  induction t with
  | nil => intro n d f b hr ht hf hs hl; cases hs
  | leaf k' v' =>
    intro n d f b hr ht hf hs hl
    cases hr with
    | leaf hx => exact wout_leaf hx (by omega)
  | fork tl tr ihL ihR =>
    intro n d f b hr ht hf hs hl
    obtain ⟨hd, k1, k2, _⟩ := ok_fork.1 ht
    cases hr with
    | fork hx h1 h2 hL hR =>
      rename_i n l r k' v'
      cases f with
      | zero => omega
      | succ f =>
        rw [find_fork] at hs
        have key : WoutS G root k ns (n + 1) d (fun m => Rep ns m (if bitN k d = 0 then .join (T.drop k (d + 1) (if bitN k d = 0 then tl else tr)) tr else .join tl (T.drop k (d + 1) (if bitN k d = 0 then tl else tr)))) (Gr ns (f + 1) (if bitN k d = 0 then .join (T.drop k (d + 1) (if bitN k d = 0 then tl else tr)) tr else .join tl (T.drop k (d + 1) (if bitN k d = 0 then tl else tr)))) := by
          refine wout_fork hx hok hL hR hd (by omega) ?_
          by_cases hb : bitN k d = 0
          · rw [if_pos hb] at hs ⊢
            rw [if_pos hb]
            exact ihL l (d + 1) f b hL k1 (by omega) hs (by omega)
          · rw [if_neg hb] at hs ⊢
            rw [if_neg hb]
            exact ihR r (d + 1) f (turnM b d) hR k2 (by omega) hs (by omega)
        have ep : T.drop k d (.fork tl tr) = (if bitN k d = 0 then .join (T.drop k (d + 1) (if bitN k d = 0 then tl else tr)) tr else .join tl (T.drop k (d + 1) (if bitN k d = 0 then tl else tr))) := by
          simp only [T.drop]
          by_cases hb : bitN k d = 0
          · simp only [if_pos hb]
          · simp only [if_neg hb]
        rw [ep]
        exact key
end Go.Proofs.Ytgeelfdgnehdnaa
namespace Go.Proofs.Ytgeelfdgnehdnaa
open Go.RowKit
set_option linter.unusedSimpArgs false
set_option linter.unusedVariables false
attribute [local irreducible] CoW OpW FlW Step Spec
variable {G : Nat → Option W}
theorem step_mkJ {o : Oper} {fr : FrW} {hp : HpW} {nw : Nat} {R : Res} {post : W → HpW → Nat → Res → Option EvW → Prop} {x : Operand} {xs : Array Operand} {ats : Array TypeId} {f : FuncId} {us : List W} {root : Int} {ns : List Node} {S : Nat → Prop} {P : List Node → Nat → Prop} (j k : Nat)
    (ho : o.op = .call ⟨.value x, xs, ats⟩) (hx : evW cfg G fr x = some (.fn f [] [])) (he : cfg.ext f = none) (hxs : evLW cfg G fr xs.toList = some (.ptr j 0 :: us)) (hpu : purL us = true) (hjk : j ≠ k) (hj : j < nw) (hkn : k < nw)
    (h0 : hget hp j = some (101, mkW k ns.length root)) (h1 : hget hp k = some (70, nsW ns)) (sp : PSpec cfg G f 2 (.ptr 0 0 :: us) [(0, 101, mkW 1 ns.length root), (1, 70, nsW ns)] (MkO root ns S P))
    (hsame : ∀ m, S m → post (.int .i64 ((m : Nat) : Int)) ((j, 101, mkW k ns.length root) :: (k, 70, nsW ns) :: delA [j, k] hp) nw R (some .dirty))
    (hpost : ∀ ns' m, P ns' m → post (.int .i64 ((m : Nat) : Int)) ((j, 101, mkW nw ns'.length root) :: (nw, 70, nsW ns') :: delA [j, k] hp) (nw + 1) R (some .dirty)) : Step cfg G o fr hp nw R post := by
  refine step_call (ext := [j, k]) (ws := .ptr 0 0 :: us) ho hx he hxs ?_ sp ?_ ?_ (by simp) (handed2 h0 (by rw [ren_pur (nsW_p _)]; exact h1) rfl (ref_pur (nsW_p _))) ?_ ?_
  · show .ptr j 0 :: (us ++ []) = W.ptr j 0 :: renWL (numC [j, k] nw) us
    rw [renWL_pur hpu, List.append_nil]
  · simp; omega
  · intro b hb
    simp only [List.mem_cons, List.not_mem_nil, or_false] at hb
    omega
  · have h := ref_pur (m := 2) (w := .tup us) hpu
    have h : refL 2 us = true := h
    show (refB 2 (.ptr 0 0) && refL 2 us) = true
    rw [h]; rfl
  · rintro w hp1 nw1 (⟨m, h, rfl, rfl, rfl⟩ | ⟨ns', m, h, rfl, rfl, rfl⟩)
    · have e : renH (numC [j, k] nw) [(0, 101, mkW 1 ns.length root), (1, 70, nsW ns)] = [(j, 101, mkW k ns.length root), (k, 70, nsW ns)] := by
        simp only [renH, ren_pur (nsW_p _)]; rfl
      have h := hsame m h
      rw [show ([j, k] : List Nat).length = 2 from rfl, e]
      exact h
    · have e : renH (numC [j, k] nw) [(0, 101, mkW 2 ns'.length root), (2, 70, nsW ns')] = [(j, 101, mkW nw ns'.length root), (nw, 70, nsW ns')] := by
        simp only [renH, ren_pur (nsW_p _)]; rfl
      have h := hpost ns' m h
      rw [show ([j, k] : List Nat).length = 2 from rfl, e]
      exact h
theorem mkO_of {f : FuncId} {ws : List W} {hp : HpW} {root : Int} {ns : List Node} {P : List Node → Nat → Prop} (h : PSpec cfg G f 2 ws hp (Mk root P)) : PSpec cfg G f 2 ws hp (MkO root ns (fun _ => False) P) := pspec_mono h fun _ _ _ h => .inr h
noncomputable def nilM (root : Int) : W := .agg 2 [.nils, .int .i64 root]
noncomputable def Mk0 (root : Int) (P : List Node → Nat → Prop) : W → HpW → Nat → Prop := fun w hp nw =>
  ∃ ns m, P ns m ∧ w = .int .i64 ((m : Nat) : Int) ∧ hp = [(0, 101, mkW 1 ns.length root), (1, 70, nsW ns)] ∧ nw = 2
theorem step_mk0 {o : Oper} {fr : FrW} {hp : HpW} {nw : Nat} {R : Res} {post : W → HpW → Nat → Res → Option EvW → Prop} {x : Operand} {xs : Array Operand} {ats : Array TypeId} {f : FuncId} {us : List W} {root : Int} {P : List Node → Nat → Prop} (j : Nat)
    (ho : o.op = .call ⟨.value x, xs, ats⟩) (hx : evW cfg G fr x = some (.fn f [] [])) (he : cfg.ext f = none) (hxs : evLW cfg G fr xs.toList = some (.ptr j 0 :: us)) (hpu : purL us = true) (hj : j < nw)
    (h0 : hget hp j = some (101, nilM root)) (sp : PSpec cfg G f 1 (.ptr 0 0 :: us) [(0, 101, nilM root)] (Mk0 root P))
    (hpost : ∀ ns' m, P ns' m → post (.int .i64 ((m : Nat) : Int)) ((j, 101, mkW nw ns'.length root) :: (nw, 70, nsW ns') :: delA [j] hp) (nw + 1) R (some .dirty)) : Step cfg G o fr hp nw R post := by
  refine step_call (ext := [j]) (ws := .ptr 0 0 :: us) ho hx he hxs ?_ sp (by simp) ?_ (by simp) (handed1 h0 rfl) ?_ ?_
  · show .ptr j 0 :: (us ++ []) = W.ptr j 0 :: renWL (numC [j] nw) us
    rw [renWL_pur hpu, List.append_nil]
  · intro b hb
    simp only [List.mem_cons, List.not_mem_nil, or_false] at hb
    omega
  · have h := ref_pur (m := 1) (w := .tup us) hpu
    have h : refL 1 us = true := h
    show (refB 1 (.ptr 0 0) && refL 1 us) = true
    rw [h]; rfl
  · rintro w hp1 nw1 ⟨ns', m, h, rfl, rfl, rfl⟩
    have e : renH (numC [j] nw) [(0, 101, mkW 1 ns'.length root), (1, 70, nsW ns')] = [(j, 101, mkW nw ns'.length root), (nw, 70, nsW ns')] := by
      simp only [renH, ren_pur (nsW_p _)]; rfl
    have h := hpost ns' m h
    rw [show ([j] : List Nat).length = 1 from rfl, e]
    exact h
theorem fin_mk0 {k0 : Nat} {rs : List ResultVar} {x : Exit} {fr : FrW} {hp : HpW} {nw : Nat} {R : Res} {root : Int} {P : List Node → Nat → Prop} {ns : List Node} {m : Nat} (s k : Nat) (hx : x = .normal ∨ x = .ret) (hk : 1 ≤ k) (hkn : k < nw) (hf : getW fr s = some (.int .i64 ((m : Nat) : Int)))
    (h0 : hget hp (tau1 1 k 0) = some (101, renW (tau1 1 k) (mkW 1 ns.length root))) (h1 : hget hp (tau1 1 k 1) = some (70, nsW ns)) (ho : outW cfg [(s, .int .i64 ((m : Nat) : Int))] [(0, 101, mkW 1 ns.length root), (1, 70, nsW ns)] rs = some (.int .i64 ((m : Nat) : Int))) (hP : P ns m) :
    QFin cfg G 1 k0 rs (fun w hp nw R' => R' = R ∧ Mk0 root P w hp nw) x fr hp nw R :=
  fin hx (ent_last (b := 1) (k := k) (fr2 := [(s, .int .i64 ((m : Nat) : Int))]) (hp2 := [(0, 101, mkW 1 ns.length root), (1, 70, nsW ns)]) (by omega) hk hkn ⟨⟨hf, rfl⟩, trivial⟩ ⟨⟨by omega, h0, rfl⟩, ⟨by omega, by rw [ren_pur (nsW_p _)]; exact h1, ref_pur (nsW_p _)⟩, trivial⟩ (by simp)) ho ⟨rfl, ns, m, hP, rfl, rfl, rfl⟩
theorem node_0 (root : Int) (x : Node) : PSpec cfg G 74 1 [.ptr 0 0, nW x] [(0, 101, nilM root)] (Mk0 root fun ns m => ns = [x] ∧ m = 1) := by
  intro R
  refine spec_in (fn := Try.f74) rfl rfl rfl (Nat.le_of_ble_eq_true rfl) (fun k0 => ?_)
  refine co_seq ?_
  refine co_region ?_
  refine op_mem rfl rfl ?_
  refine op_pure rfl rfl ?_
  refine op_nil ?_
  refine q_seq ?_
  refine co_seq ?_
  refine co_flow ?_
  iterate 8 first | refine fl_pure rfl rfl ?_ | refine fl_mem rfl rfl (by first | rfl | kernel_rfl) ?_
  refine fl_mem rfl (ap_op rfl rfl (app_nil (news := [nW x]) (k := ti70) rfl rfl rfl rfl (src_sl rfl rfl rfl rfl) (by simp) (by show 1 * ti70.bytes ≤ _; decide) (by show 1 ≤ _; decide))) (by first | rfl | kernel_rfl) ?_
  iterate 3 refine fl_pure rfl rfl ?_
  refine fl_mem rfl rfl (by first | rfl | kernel_rfl) ?_
  refine fl_nil ?_
  refine q_seq ?_
  refine co_seq ?_
  refine co_region ?_
  iterate 4 refine op_pure rfl rfl ?_
  refine op_mem rfl rfl ?_
  first | refine op_len rfl rfl ?_ | refine op_pure rfl rfl ?_
  refine op_pure rfl rfl ?_
  refine op_nil ?_
  refine q_seq ?_
  refine co_ret ?_
  exact fin_mk0 (ns := [x]) (m := 1) 4 3 (.inr rfl) (by omega) (by show 3 < 4; omega) rfl rfl rfl rfl ⟨rfl, rfl⟩
theorem with_0 {root : Int} {k : Dig} {v : List UInt8} {d : Int} : PSpec cfg G 55 1 [.ptr 0 0, .int .i64 ((0 : Nat) : Int), .int .i64 d, nW ⟨true, k, v, 0, 0⟩] [(0, 101, nilM root)] (Mk0 root fun ns m => ns = [⟨true, k, v, 0, 0⟩] ∧ m = 1) := by
  intro R
  refine spec_in (fn := Try.f55) rfl rfl rfl (Nat.le_of_ble_eq_true rfl) (fun k0 => ?_)
  refine co_seq ?_
  refine co_region ?_
  refine op_mem rfl rfl ?_
  refine op_pure rfl rfl ?_
  refine op_nil ?_
  refine q_seq ?_
  iterate 2 refine co_seq ?_
  refine co_region ?_
  refine op_pure rfl rfl ?_
  refine op_cmp rfl rfl (by first | exact ltI_iff | exact eqI_iff | exact nlt_iff | exact neq_iff | exact dec_iff | exact bool_iff) ?_
  refine op_nil ?_
  refine q_seq ?_
  refine co_dec rfl (by first | exact ltI_iff | exact eqI_iff | exact nlt_iff | exact neq_iff | exact dec_iff | exact bool_iff) (fun h1 => ?_) (fun h1 => ?_)
  · refine co_seq ?_
    refine co_region ?_
    refine op_pure rfl rfl ?_
    refine op_mem rfl rfl ?_
    (refine op_step rfl (step_mk0 0 rfl rfl rfl rfl (by simp) (by show 0 < 2; omega) rfl (node_0 root _) ?_); rintro ns1 m ⟨rfl, rfl⟩)
    refine op_pure rfl rfl ?_
    refine op_nil ?_
    refine q_seq ?_
    refine co_ret ?_
    refine q_seqx (by intro h; cases h) ?_
    exact fin_mk0 (ns := [⟨true, k, v, 0, 0⟩]) (m := 1) 8 2 (.inr rfl) (by omega) (by show 2 < 3; omega) rfl rfl rfl rfl ⟨rfl, rfl⟩
  · exfalso; omega
end Go.Proofs.Ytgeelfdgnehdnaa
namespace Go.Proofs.Ytgeelfdgnehdnaa
open Go.RowKit
set_option linter.unusedSimpArgs false
set_option linter.unusedVariables false
attribute [local irreducible] CoW OpW FlW Step Spec
variable {G : Nat → Option W}
def PutA (t0 : T) : W → Prop := fun w => ∃ t n, IsT t n t0 ∧ w = .tup [tW t, .int .i64 0]
theorem view_mk {hp : HpW} {b : Nat} {ns : List Node} {root : Int} (h : hget hp b = some (70, nsW ns)) : View (blkA hp) (mkW b ns.length root) (tW ⟨ns, root⟩) :=
  .agg (.cons (.sl (c := nsW ns) (by unfold blkA; rw [h]) (nsW_p ns) (sub_wholeE (by decide) (List.length_map _).symm rfl) (by intro h; cases h)) (.cons (.pur rfl) .nil))
theorem ist_put {ns ns' : List Node} {n m : Nat} {t0 : T} {k : Dig} {v : List UInt8} (h : IsT ⟨ns, (n : Int)⟩ n t0) (hl : ns.length ≤ 261844) (hg : Gr ns 257 (t0.put k v 256) ns' m) : IsT ⟨ns', (m : Int)⟩ m (t0.put k v 256) := by
  obtain ⟨⟨ms, rfl, hms⟩, hok, hr⟩ := hg
  exact ⟨by simp only [List.length_append]; omega, hok, rfl, hr, (put_spec k v 256 t0 (d := 0) (b := zeroD) rfl zr_zero h.ok (Nat.zero_le _)).1⟩
theorem tput_s (t : Tree) (n : Nat) (t0 : T) (k : Dig) (v : List UInt8) (f : Bool) (h : IsT t n t0) (hv : MayP [(k, v)]) (hl : t.nodes.length ≤ 261844) : PE cfg G 29 [tW t, dW k, .fz (bytesW v) 1 f] (PutA (t0.put k v 256)) := by
  have hy := h.may
  have hr := h.root
  obtain ⟨ns, root⟩ := t
  simp only at hr hl
  subst hr
  have hvl : v.length ≤ 70368744177664 := by
    have h2 := (hv.2 0 (by simp) (k, v) rfl).1
    simp only [valB, Bool.and_eq_true, decide_eq_true_eq] at h2
    omega
  have e : (ns.map nW).length = ns.length := List.length_map _
  have hvals : ∀ x ∈ ns, x.val.length ≤ 70368744177664 := fun x hx => by
    obtain ⟨i, hi⟩ := List.getElem?_of_mem hx
    have h1 := h.okn i x hi
    obtain ⟨lf, k', v', l, r⟩ := x
    cases lf with
    | true => have := (okN_val h.okn hi).2; simp only; omega
    | false => simp only [oneB, Bool.false_eq_true, if_false] at h1; simp only; rw [h1.2.2.2.1]; simp
  refine pe_inV (fn := Try.f29) rfl rfl rfl (Nat.le_of_ble_eq_true rfl) (fun R k0 => ?_)
  refine co_seq ?_
  refine co_region ?_
  iterate 3 refine op_mem rfl rfl ?_
  refine op_pure rfl rfl ?_
  refine op_nil ?_
  refine q_seq ?_
  refine co_seq ?_
  refine co_flow ?_
  refine fl_mem rfl rfl (by first | rfl | kernel_rfl) ?_
  refine fl_pure rfl rfl ?_
  refine fl_ps rfl rfl rfl rfl rfl rfl (clone_s _ _ (by first | assumption | (simp; omega))) (by first | rfl | assumption | (simp; done)) (by first | rfl | assumption | (simp; done)) (by first | rfl | kernel_rfl) ?_
  iterate 3 first | refine fl_pure rfl rfl ?_ | refine fl_mem rfl rfl (by first | rfl | kernel_rfl) ?_
  refine fl_nil ?_
  refine q_seq ?_
  iterate 3 first | refine co_seq ?_ | refine co_block ?_
  refine co_region ?_
  refine op_mem rfl rfl ?_
  first | refine op_ps rfl rfl rfl rfl rfl rfl (ps_eq (w' := .int .i64 0) (tcheck_s ⟨ns, (n : Int)⟩ (by show ns.length ≤ _; omega)) (by rw [if_pos hy])) (by first | rfl | assumption | (simp; done)) (by first | rfl | assumption | (simp; done)) ?_ | refine op_ps rfl rfl rfl rfl rfl rfl (tcheck_s _ (by omega)) (by first | rfl | assumption | (simp; done)) (by first | rfl | assumption | (simp; done)) ?_
  refine op_dec rfl rfl (by first | exact ltI_iff | exact eqI_iff | exact nlt_iff | exact neq_iff | exact dec_iff | exact bool_iff) (fun h1 => ?_) (fun h1 => ?_)
  · exfalso; exact h1 rfl
  · refine op_pure rfl rfl ?_
    refine op_mem rfl rfl ?_
    first | refine op_ps rfl rfl rfl rfl rfl rfl (ps_eq (w' := .bool true) (one_s ⟨true, k, v, 0, 0⟩ 0 (by omega)) (by rw [decide_eq_true (leaf_one hv 0)])) (by first | rfl | assumption | (simp; done)) (by first | rfl | assumption | (simp; done)) ?_ | refine op_ps rfl rfl rfl rfl rfl rfl (one_s _ _ (by omega)) (by first | rfl | assumption | (simp; done)) (by first | rfl | assumption | (simp; done)) ?_
    iterate 3 refine op_pure rfl rfl ?_
    refine op_nil ?_
    refine q_seq ?_
    refine co_false rfl ?_
    refine co_seq ?_
    refine co_region ?_
    refine op_pure rfl rfl ?_
    refine op_mem rfl rfl ?_
    refine op_val (w' := .int .i64 (ns.length : Int)) rfl rfl (by rw [← e]; rfl) ?_
    refine op_cmp rfl rfl (by first | exact ltI_iff | exact eqI_iff | exact nlt_iff | exact neq_iff | exact dec_iff | exact bool_iff) ?_
    refine op_pure rfl rfl ?_
    refine op_nil ?_
    refine q_seq ?_
    refine co_dec rfl (by first | exact ltI_iff | exact eqI_iff | exact nlt_iff | exact neq_iff | exact dec_iff | exact bool_iff) (fun h2 => ?_) (fun h2 => ?_)
    · exfalso; omega
    · refine co_skip ?_
      refine q_blkn (by intro i h; cases h) ?_
      refine q_seq ?_
      refine co_seq ?_
      refine co_region ?_
      refine op_mem rfl rfl ?_
      skip
      skip
      refine op_step rfl (step_own rfl rfl rfl rfl rfl (by simp [nsW_pur]) (twin_s ns (n : Int) (by omega) hvals) ?_)
      rintro w hp1 nw1 (⟨hn, rfl, rfl, rfl⟩ | ⟨rfl, rfl, rfl⟩)
      · subst hn
        obtain rfl : n = 0 := by have := h.rep.le; simpa using this
        skip
        iterate 4 first | refine op_pure rfl rfl ?_ | refine op_mem rfl rfl ?_ | refine op_nil ?_
        refine q_seq ?_
        refine co_seq ?_
        refine co_flow ?_
        iterate 8 first | refine fl_pure rfl rfl ?_ | refine fl_mem rfl rfl (by first | rfl | kernel_rfl) ?_
        (refine fl_step rfl (step_mk0 6 rfl rfl rfl rfl (by simp [renW]) (by show 6 < 7; omega) rfl (with_0 (k := k) (v := v)) ?_); rintro ns1 m ⟨rfl, rfl⟩; refine ⟨by first | rfl | kernel_rfl, ?_⟩)
        iterate 5 first | refine fl_pure rfl rfl ?_ | refine fl_mem rfl rfl (by first | rfl | kernel_rfl) ?_ | refine fl_nil ?_
        refine q_seq ?_
        refine co_seq ?_
        refine co_region ?_
        iterate 7 first | refine op_pure rfl rfl ?_ | refine op_mem rfl rfl ?_ | refine op_nil ?_
        refine q_seq ?_
        refine co_ret ?_
        obtain rfl := h.rep.zero
        refine fin_vE (w' := .tup [tW ⟨[⟨true, k, v, 0, 0⟩], ((1 : Nat) : Int)⟩, .int .i64 0]) (.inr rfl) rfl (.tup (.cons (view_mk (b := 7) (ns := [⟨true, k, v, 0, 0⟩]) (root := ((1 : Nat) : Int)) rfl) (.cons (.pur rfl) .nil))) (by simp) ⟨_, 1, ?_, rfl⟩
        refine ist_put (n := 0) h (by simp) ?_
        rw [show T.put k v 256 .nil = .leaf k v from by simp [T.put]]
        exact gr_leaf (ns := []) h.okn hv (by omega)
      · skip
        iterate 4 first | refine op_pure rfl rfl ?_ | refine op_mem rfl rfl ?_ | refine op_nil ?_
        refine q_seq ?_
        refine co_seq ?_
        refine co_flow ?_
        iterate 8 first | refine fl_pure rfl rfl ?_ | refine fl_mem rfl rfl (by first | rfl | kernel_rfl) ?_
        (refine fl_step rfl (step_mkJ 7 6 rfl rfl rfl rfl (by simp [renW]) (by omega) (by show 7 < 8; omega) (by show 6 < 8; omega) rfl (by show some (70, renW _ (nsW ns)) = _; rw [ren_pur (nsW_p ns)]) (mkO_of (with_s (n : Int) k v hv 256 t0 ns n 0 zeroD h.rep h.okn h.ok rfl zr_zero (Nat.zero_le _) (by omega))) ?_ ?_); exact fun m hm => hm.elim; rintro ns1 m hg; refine ⟨by first | rfl | kernel_rfl, ?_⟩)
        iterate 5 first | refine fl_pure rfl rfl ?_ | refine fl_mem rfl rfl (by first | rfl | kernel_rfl) ?_ | refine fl_nil ?_
        refine q_seq ?_
        refine co_seq ?_
        refine co_region ?_
        iterate 7 first | refine op_pure rfl rfl ?_ | refine op_mem rfl rfl ?_ | refine op_nil ?_
        refine q_seq ?_
        refine co_ret ?_
        exact fin_vE (w' := .tup [tW ⟨ns1, (m : Int)⟩, .int .i64 0]) (.inr rfl) rfl (.tup (.cons (view_mk (b := 8) (ns := ns1) (root := (m : Int)) rfl) (.cons (.pur rfl) .nil))) (by simp) ⟨_, m, ist_put h hl hg, rfl⟩
end Go.Proofs.Ytgeelfdgnehdnaa
namespace Go.Proofs.Ytgeelfdgnehdnaa
open Go.RowKit
set_option linter.unusedSimpArgs false
set_option linter.unusedVariables false
attribute [local irreducible] CoW OpW FlW Step Spec
variable {G : Nat → Option W}
theorem IsT.vals {ns : List Node} {n : Nat} {root : Int} {t0 : T} (h : IsT ⟨ns, root⟩ n t0) : ∀ x ∈ ns, x.val.length ≤ 70368744177664 := fun x hx => by
  obtain ⟨i, hi⟩ := List.getElem?_of_mem hx
  have h1 := h.okn i x hi
  obtain ⟨lf, k', v', l, r⟩ := x
  cases lf with
  | true => have := (okN_val h.okn hi).2; simp only; omega
  | false => simp only [oneB, Bool.false_eq_true, if_false] at h1; simp only; rw [h1.2.2.2.1]; simp
theorem tdrop_s (t : Tree) (n : Nat) (t0 : T) (k : Dig) (h : IsT t n t0) (hs : (t0.find k 0).isSome = true) (hl : t.nodes.length ≤ 261844) : PE cfg G 31 [tW t, dW k] (PutA (t0.drop k 0)) := by
  have hy := h.may
  have hr := h.root
  obtain ⟨ns, root⟩ := t
  simp only at hr hl
  subst hr
  have e : (ns.map nW).length = ns.length := List.length_map _
  have hvals := h.vals
  have hok := (drop_spec k t0 zr_zero h.ok hs).1
  obtain ⟨m, f1, f2, f3⟩ := fto_of (k := k) h.rep h.ok
  obtain ⟨v0, hv0⟩ := Option.isSome_iff_exists.1 hs
  obtain ⟨j, l0, r0, rfl, hx⟩ := f3 v0 hv0
  have hj := (List.getElem?_eq_some_iff.1 hx).1
  refine pe_inV (fn := Try.f31) rfl rfl rfl (Nat.le_of_ble_eq_true rfl) (fun R k0 => ?_)
  refine co_seq ?_
  refine co_region ?_
  iterate 3 refine op_mem rfl rfl ?_
  refine op_pure rfl rfl ?_
  refine op_nil ?_
  refine q_seq ?_
  iterate 3 first | refine co_seq ?_ | refine co_block ?_
  refine co_region ?_
  refine op_mem rfl rfl ?_
  first | refine op_ps rfl rfl rfl rfl rfl rfl (ps_eq (w' := .int .i64 0) (tcheck_s ⟨ns, (n : Int)⟩ (by show ns.length ≤ _; omega)) (by rw [if_pos hy])) (by first | rfl | assumption | (simp; done)) (by first | rfl | assumption | (simp; done)) ?_ | refine op_ps rfl rfl rfl rfl rfl rfl (tcheck_s _ (by omega)) (by first | rfl | assumption | (simp; done)) (by first | rfl | assumption | (simp; done)) ?_
  refine op_cmp rfl rfl (by first | exact ltI_iff | exact eqI_iff | exact nlt_iff | exact neq_iff | exact dec_iff | exact bool_iff) ?_
  refine op_pure rfl rfl ?_
  refine op_nil ?_
  refine q_seq ?_
  refine co_false rfl ?_
  refine co_seq ?_
  refine co_region ?_
  iterate 2 refine op_mem rfl rfl ?_
  refine op_ps rfl rfl rfl rfl rfl rfl (tfind_s ⟨ns, (n : Int)⟩ k n _ rfl f1 (by show ns.length ≤ _; omega)) (by first | rfl | assumption | (simp; done)) (by first | rfl | assumption | (simp; done)) ?_
  refine op_cmp rfl rfl (by first | exact ltI_iff | exact eqI_iff | exact nlt_iff | exact neq_iff | exact dec_iff | exact bool_iff) ?_
  refine op_pure rfl rfl ?_
  refine op_nil ?_
  refine q_seq ?_
  refine co_dec rfl (by first | exact ltI_iff | exact eqI_iff | exact nlt_iff | exact neq_iff | exact dec_iff | exact bool_iff) (fun h1 => ?_) (fun h1 => ?_)
  · exfalso; omega
  · refine co_seq ?_
    refine co_region ?_
    refine op_pure rfl rfl ?_
    refine op_mem rfl rfl ?_
    refine op_val (w' := .int .i64 (ns.length : Int)) rfl rfl (by rw [← e]; rfl) ?_
    refine op_cmp rfl rfl (by first | exact ltI_iff | exact eqI_iff | exact nlt_iff | exact neq_iff | exact dec_iff | exact bool_iff) ?_
    refine op_pure rfl rfl ?_
    refine op_nil ?_
    refine q_seq ?_
    refine co_dec rfl (by first | exact ltI_iff | exact eqI_iff | exact nlt_iff | exact neq_iff | exact dec_iff | exact bool_iff) (fun h2 => ?_) (fun h2 => ?_)
    · exfalso; omega
    · refine co_skip ?_
      refine q_blkn (by intro i h; cases h) ?_
      refine q_seq ?_
      refine co_seq ?_
      refine co_region ?_
      refine op_mem rfl rfl ?_
      skip
      refine op_step rfl (step_own rfl rfl rfl rfl rfl (by simp [nsW_pur]) (twin_s ns (n : Int) (by omega) hvals) ?_)
      rintro w hp1 nw1 (⟨hn, rfl, rfl, rfl⟩ | ⟨rfl, rfl, rfl⟩)
      · exfalso
        subst hn
        simp at hj
      · skip
        iterate 4 first | refine op_pure rfl rfl ?_ | refine op_mem rfl rfl ?_ | refine op_nil ?_
        refine q_seq ?_
        refine co_seq ?_
        refine co_flow ?_
        iterate 8 first | refine fl_pure rfl rfl ?_ | refine fl_mem rfl rfl (by first | rfl | kernel_rfl) ?_
        skip
        refine fl_step rfl (step_mkJ 6 5 rfl rfl rfl rfl (by simp [renW]) (by omega) (by show 6 < 7; omega) (by show 5 < 7; omega) rfl (by show some (70, renW _ (nsW ns)) = _; rw [ren_pur (nsW_p ns)]) (wout_s (n : Int) k ns h.okn t0 n 0 256 zeroD h.rep h.ok rfl hs (by omega)) ?_ ?_)
        · skip
          skip
          intro m hm
          refine ⟨by first | rfl | kernel_rfl, ?_⟩
          skip
          iterate 5 first | refine fl_pure rfl rfl ?_ | refine fl_mem rfl rfl (by first | rfl | kernel_rfl) ?_ | refine fl_nil ?_
          refine q_seq ?_
          refine co_seq ?_
          refine co_region ?_
          iterate 7 first | refine op_pure rfl rfl ?_ | refine op_mem rfl rfl ?_ | refine op_nil ?_
          refine q_seq ?_
          refine co_ret ?_
          exact fin_vE (w' := .tup [tW ⟨ns, (m : Int)⟩, .int .i64 0]) (.inr rfl) rfl (.tup (.cons (view_mk (b := 5) (ns := ns) (root := (m : Int)) rfl) (.cons (.pur rfl) .nil))) (by simp) ⟨⟨ns, (m : Int)⟩, m, ⟨h.len, h.okn, rfl, hm, hok⟩, rfl⟩
        · rintro ns1 m ⟨⟨ms, rfl, hms⟩, hok1, hm⟩
          refine ⟨by first | rfl | kernel_rfl, ?_⟩
          skip
          iterate 5 first | refine fl_pure rfl rfl ?_ | refine fl_mem rfl rfl (by first | rfl | kernel_rfl) ?_ | refine fl_nil ?_
          refine q_seq ?_
          refine co_seq ?_
          refine co_region ?_
          iterate 7 first | refine op_pure rfl rfl ?_ | refine op_mem rfl rfl ?_ | refine op_nil ?_
          refine q_seq ?_
          refine co_ret ?_
          exact fin_vE (w' := .tup [tW ⟨ns ++ ms, (m : Int)⟩, .int .i64 0]) (.inr rfl) rfl (.tup (.cons (view_mk (b := 7) (ns := ns ++ ms) (root := (m : Int)) rfl) (.cons (.pur rfl) .nil))) (by simp) ⟨⟨ns ++ ms, (m : Int)⟩, m, ⟨by simp only [List.length_append]; omega, hok1, rfl, hm, hok⟩, rfl⟩
end Go.Proofs.Ytgeelfdgnehdnaa
namespace Go.Proofs.Ytgeelfdgnehdnaa
open Go.RowKit
set_option linter.unusedSimpArgs false
set_option linter.unusedVariables false
attribute [local irreducible] CoW OpW FlW Step Spec
variable {G : Nat → Option W}
noncomputable def setL (l : List Pr) (k : Dig) (a : Acct) : List Pr := if a = .zero then withoutL l k else withL l k (bytesA a)
def SetA (t0 : T) (k : Dig) (a : Acct) : W → Prop := fun w => ∃ t n t1, IsA t n t1 ∧ t1.all = setL t0.all k a ∧ w = .tup [tW t, .int .i64 0]
noncomputable def noT : W := .agg 2 [.nils, .int .i64 0]
theorem mayp_bytes (k : Dig) (a : Acct) : MayP [(k, bytesA a)] := by
  refine ⟨by simp, fun i hi x hx => ?_⟩
  obtain rfl : i = 0 := by simpa using hi
  cases hx
  exact ⟨by simp [valB, bytesA, beB], fun y h0 => by omega⟩
theorem aset_no (t : Tree) (hb : t.nodes.length ≤ 4611686018427387903) (h : ¬ MayA t) (k : Dig) (a : Acct) : PS cfg G 9 [tW t, dW k, aW a] (.tup [noT, .int .i64 8]) := by
  refine ps_in (fn := Try.f9) rfl rfl rfl (Nat.le_of_ble_eq_true rfl) (fun R k0 => ?_)
  refine co_seq ?_
  refine co_region ?_
  iterate 4 refine op_mem rfl rfl ?_
  refine op_pure rfl rfl ?_
  refine op_nil ?_
  refine q_seq ?_
  iterate 2 refine co_seq ?_
  refine co_region ?_
  refine op_mem rfl rfl ?_
  refine op_ps rfl rfl rfl rfl rfl rfl (ps_eq (w' := .int .i64 8) (acheck_s t hb) (by rw [if_neg h])) (by first | rfl | assumption | (simp; done)) (by first | rfl | assumption | (simp; done)) ?_
  refine op_pure rfl rfl ?_
  refine op_nil ?_
  refine q_seq ?_
  refine co_seq ?_
  refine co_region ?_
  refine op_pure rfl rfl ?_
  refine op_cmp rfl rfl (by first | exact ltI_iff | exact eqI_iff | exact nlt_iff | exact neq_iff | exact dec_iff | exact bool_iff) ?_
  refine op_nil ?_
  refine q_seq ?_
  refine co_true rfl ?_
  refine co_seq ?_
  refine co_region ?_
  iterate 4 first | refine op_pure rfl rfl ?_ | refine op_mem rfl rfl ?_
  refine op_nil ?_
  refine q_seq ?_
  refine co_ret ?_
  refine q_seqx (by intro h; cases h) ?_
  exact fin_eq (.inr rfl) rfl rfl
theorem aset_s (t : Tree) (n : Nat) (t0 : T) (k : Dig) (a : Acct) (h : IsA t n t0) (ha : a.ok) (hl : t.nodes.length ≤ 261844) : PE cfg G 9 [tW t, dW k, aW a] (SetA t0 k a) := by
  have yes : MayA t := ⟨n, t0, h⟩
  by_cases hz : a = .zero
  · subst hz
    have hvals : ∀ x ∈ t.nodes, x.val.length ≤ 70368744177664 := IsT.vals (root := t.root) h.toIsT
    cases hf : t0.find k 0 with
    | none =>
      have hno : withoutL t0.all k = t0.all := withoutL_self (findL_none.1 (by rw [← find_spec k zr_zero h.ok]; exact hf))
      have hall : t0.all = setL t0.all k .zero := by unfold setL; rw [if_pos rfl, hno]
      refine pe_inV (fn := Try.f9) rfl rfl rfl (Nat.le_of_ble_eq_true rfl) (fun R k0 => ?_)
      refine co_seq ?_
      refine co_region ?_
      iterate 4 refine op_mem rfl rfl ?_
      refine op_pure rfl rfl ?_
      refine op_nil ?_
      refine q_seq ?_
      iterate 2 refine co_seq ?_
      refine co_region ?_
      refine op_mem rfl rfl ?_
      refine op_ps rfl rfl rfl rfl rfl rfl (ps_eq (w' := .int .i64 0) (acheck_s t (by omega)) (by rw [if_pos yes])) (by first | rfl | assumption | (simp; done)) (by first | rfl | assumption | (simp; done)) ?_
      refine op_pure rfl rfl ?_
      refine op_nil ?_
      refine q_seq ?_
      refine co_seq ?_
      refine co_region ?_
      refine op_pure rfl rfl ?_
      refine op_cmp rfl rfl (by first | exact ltI_iff | exact eqI_iff | exact nlt_iff | exact neq_iff | exact dec_iff | exact bool_iff) ?_
      refine op_nil ?_
      refine q_seq ?_
      refine co_false rfl ?_
      refine co_skip ?_
      refine q_seq ?_
      iterate 2 refine co_seq ?_
      refine co_region ?_
      refine op_mem rfl rfl ?_
      refine op_pure rfl rfl ?_
      refine op_pure rfl (bin_neq rfl rfl rfl rfl (eq_acct .zero .zero)) ?_
      refine op_nil ?_
      refine q_seq ?_
      refine co_false rfl ?_
      refine co_skip ?_
      refine q_seq ?_
      iterate 2 refine co_seq ?_
      refine co_region ?_
      iterate 2 refine op_mem rfl rfl ?_
      refine op_ps rfl rfl rfl rfl rfl rfl (ps_eq (w' := .tup [.nils, .bool false]) (tget_s t n t0 k h.toIsT) (by rw [hf]; rfl)) (by first | rfl | assumption | (simp; done)) (by first | rfl | assumption | (simp; done)) ?_
      iterate 5 refine op_pure rfl rfl ?_
      refine op_nil ?_
      refine q_seq ?_
      refine co_seq ?_
      refine co_region ?_
      iterate 2 refine op_pure rfl rfl ?_
      refine op_nil ?_
      refine q_seq ?_
      refine co_true rfl ?_
      refine co_seq ?_
      refine co_region ?_
      refine op_mem rfl rfl ?_
      skip
      skip
      refine op_step rfl (step_own rfl rfl rfl rfl rfl (by simp [nsW_pur]) (twin_s t.nodes t.root (by omega) hvals) ?_)
      rintro w hp1 nw1 (⟨hn, rfl, rfl, rfl⟩ | ⟨rfl, rfl, rfl⟩)
      · skip
        refine op_mem rfl rfl ?_
        refine op_pure rfl rfl ?_
        refine op_nil ?_
        refine q_seq ?_
        refine co_ret ?_
        refine q_seqx (by intro h; cases h) ?_
        refine fin_vE (w' := .tup [tW t, .int .i64 0]) (.inr rfl) rfl (.tup (.cons (.agg (.cons ?_ (.cons (.pur rfl) .nil))) (.cons (.pur rfl) .nil))) (by simp) ⟨t, n, t0, h, hall, rfl⟩
        rw [hn]
        exact .nilfz
      · skip
        refine op_mem rfl rfl ?_
        refine op_pure rfl rfl ?_
        refine op_nil ?_
        refine q_seq ?_
        refine co_ret ?_
        refine q_seqx (by intro h; cases h) ?_
        exact fin_vE (w' := .tup [tW t, .int .i64 0]) (.inr rfl) rfl (.tup (.cons (view_mk (b := 6) (ns := t.nodes) (root := t.root) (by show some (70, renW _ (nsW t.nodes)) = _; rw [ren_pur (nsW_p t.nodes)])) (.cons (.pur rfl) .nil))) (by simp) ⟨t, n, t0, h, hall, rfl⟩
    | some v =>
      have hs : (t0.find k 0).isSome = true := by rw [hf]; rfl
      have hd := (drop_spec k t0 zr_zero h.ok hs).2
      refine pe_inV (fn := Try.f9) rfl rfl rfl (Nat.le_of_ble_eq_true rfl) (fun R k0 => ?_)
      refine co_seq ?_
      refine co_region ?_
      iterate 4 refine op_mem rfl rfl ?_
      refine op_pure rfl rfl ?_
      refine op_nil ?_
      refine q_seq ?_
      iterate 2 refine co_seq ?_
      refine co_region ?_
      refine op_mem rfl rfl ?_
      refine op_ps rfl rfl rfl rfl rfl rfl (ps_eq (w' := .int .i64 0) (acheck_s t (by omega)) (by rw [if_pos yes])) (by first | rfl | assumption | (simp; done)) (by first | rfl | assumption | (simp; done)) ?_
      refine op_pure rfl rfl ?_
      refine op_nil ?_
      refine q_seq ?_
      refine co_seq ?_
      refine co_region ?_
      refine op_pure rfl rfl ?_
      refine op_cmp rfl rfl (by first | exact ltI_iff | exact eqI_iff | exact nlt_iff | exact neq_iff | exact dec_iff | exact bool_iff) ?_
      refine op_nil ?_
      refine q_seq ?_
      refine co_false rfl ?_
      refine co_skip ?_
      refine q_seq ?_
      iterate 2 refine co_seq ?_
      refine co_region ?_
      refine op_mem rfl rfl ?_
      refine op_pure rfl rfl ?_
      refine op_pure rfl (bin_neq rfl rfl rfl rfl (eq_acct .zero .zero)) ?_
      refine op_nil ?_
      refine q_seq ?_
      refine co_false rfl ?_
      refine co_skip ?_
      refine q_seq ?_
      iterate 2 refine co_seq ?_
      refine co_region ?_
      iterate 2 refine op_mem rfl rfl ?_
      refine op_ps rfl rfl rfl rfl rfl rfl (ps_eq (w' := .tup [bW v, .bool true]) (tget_s t n t0 k h.toIsT) (by rw [hf]; rfl)) (by first | rfl | assumption | (simp; done)) (by first | rfl | assumption | (simp; done)) ?_
      iterate 5 refine op_pure rfl rfl ?_
      refine op_nil ?_
      refine q_seq ?_
      refine co_seq ?_
      refine co_region ?_
      iterate 2 refine op_pure rfl rfl ?_
      refine op_nil ?_
      refine q_seq ?_
      refine co_false rfl ?_
      refine co_skip ?_
      refine q_seq ?_
      refine co_seq ?_
      refine co_region ?_
      iterate 2 refine op_mem rfl rfl ?_
      (refine op_step rfl (step_pe rfl rfl rfl rfl rfl (tdrop_s t n t0 k h.toIsT hs hl) (by simp) ?_); rintro w hw ⟨t', n', ht', rfl⟩)
      iterate 5 first | refine op_pure rfl rfl ?_ | refine op_mem rfl rfl ?_ | refine op_nil ?_
      refine q_seq ?_
      refine co_ret ?_
      exact fin_vE (w' := .tup [tW t', .int .i64 0]) (.inr rfl) rfl (.pur (by simp)) (by simp) ⟨t', n', _, ⟨ht', fun p hp => h.held p (by rw [hd] at hp; exact (mem_withoutL.1 hp).1)⟩, by rw [hd]; unfold setL; rw [if_pos rfl], rfl⟩
  · have hp := (put_spec k (bytesA a) 256 t0 (d := 0) (b := zeroD) rfl zr_zero h.ok (Nat.zero_le _)).2
    have e : eqW cfg 300 29 (aW a) (aW .zero) = some false := by rw [eq_acct, decide_eq_false hz]
    refine pe_inV (fn := Try.f9) rfl rfl rfl (Nat.le_of_ble_eq_true rfl) (fun R k0 => ?_)
    refine co_seq ?_
    refine co_region ?_
    iterate 4 refine op_mem rfl rfl ?_
    refine op_pure rfl rfl ?_
    refine op_nil ?_
    refine q_seq ?_
    iterate 2 refine co_seq ?_
    refine co_region ?_
    refine op_mem rfl rfl ?_
    refine op_ps rfl rfl rfl rfl rfl rfl (ps_eq (w' := .int .i64 0) (acheck_s t (by omega)) (by rw [if_pos yes])) (by first | rfl | assumption | (simp; done)) (by first | rfl | assumption | (simp; done)) ?_
    refine op_pure rfl rfl ?_
    refine op_nil ?_
    refine q_seq ?_
    refine co_seq ?_
    refine co_region ?_
    refine op_pure rfl rfl ?_
    refine op_cmp rfl rfl (by first | exact ltI_iff | exact eqI_iff | exact nlt_iff | exact neq_iff | exact dec_iff | exact bool_iff) ?_
    refine op_nil ?_
    refine q_seq ?_
    refine co_false rfl ?_
    refine co_skip ?_
    refine q_seq ?_
    iterate 2 refine co_seq ?_
    refine co_region ?_
    refine op_mem rfl rfl ?_
    refine op_pure rfl rfl ?_
    refine op_pure rfl (bin_neq rfl rfl rfl rfl e) ?_
    refine op_nil ?_
    refine q_seq ?_
    refine co_true rfl ?_
    refine co_seq ?_
    refine co_flow ?_
    iterate 3 refine fl_mem rfl rfl (by first | rfl | kernel_rfl) ?_
    refine fl_ps rfl rfl rfl rfl rfl rfl (abytes_s a ha) (by first | rfl | assumption | (simp; done)) (by first | rfl | assumption | (simp; done)) (by first | rfl | kernel_rfl) ?_
    (refine fl_step rfl (step_pe rfl rfl rfl rfl rfl (tput_s t n t0 k (bytesA a) false h.toIsT (mayp_bytes k a) hl) (by simp) ?_); rintro w hw ⟨t', n', ht', rfl⟩; refine ⟨by first | rfl | kernel_rfl, ?_⟩)
    iterate 5 first | refine fl_pure rfl rfl ?_ | refine fl_mem rfl rfl (by first | rfl | kernel_rfl) ?_ | refine fl_nil ?_
    refine q_seq ?_
    refine co_ret ?_
    refine q_seqx (by intro h; cases h) ?_
    exact fin_vE (w' := .tup [tW t', .int .i64 0]) (.inr rfl) rfl (.pur (by simp)) (by simp) ⟨t', n', _, ⟨ht', fun p hq => by
      rw [hp] at hq
      rcases mem_withL.1 hq with rfl | ⟨q, _⟩
      · simp only; rw [read_bytes a ha hz]
      · exact h.held p q⟩, by rw [hp]; unfold setL; rw [if_neg hz], rfl⟩
end Go.Proofs.Ytgeelfdgnehdnaa
namespace Go.Proofs.Ytgeelfdgnehdnaa
open Go.RowKit
set_option linter.unusedSimpArgs false
set_option linter.unusedVariables false
attribute [local irreducible] CoW OpW FlW Step Spec
variable {G : Nat → Option W}
theorem step_add64 {o : Oper} {fr : FrW} {hp : HpW} {nw : Nat} {R : Res} {post : W → HpW → Nat → Res → Option EvW → Prop} {x : Operand} {xs : Array Operand} {ats : Array TypeId} {f : FuncId} {a b : Nat}
    (ho : o.op = .call ⟨.value x, xs, ats⟩) (hx : evW cfg G fr x = some (.fn f [] [])) (he : cfg.ext f = some add64V) (hxs : evLW cfg G fr xs.toList = some [.int .u64 ((a : Nat) : Int), .int .u64 ((b : Nat) : Int), .int .u64 ((0 : Nat) : Int)])
    (hpost : post (.tup [.int .u64 (((a + b) % 18446744073709551616 : Nat) : Int), .int .u64 (((a + b) / 18446744073709551616 : Nat) : Int)]) hp nw R (some .gen)) : Step cfg G o fr hp nw R post := by
  refine step_ext ho hx he hxs (fun Γ vs h => ?_) hpost
  simp only [List.nil_append, List.append_nil, RVL_cons, RV_int] at h
  obtain ⟨v1, vs1, rfl, rfl, v2, vs2, rfl, rfl, v3, vs3, rfl, rfl, h⟩ := h
  obtain rfl : vs3 = [] := by simpa [RVL] using h
  refine ⟨.tup [.int .u64 (.ofNat ((a + b + 0) % 18446744073709551616)), .int .u64 (.ofNat ((a + b + 0) / 18446744073709551616))], rfl, ?_⟩
  rw [RV_tup]
  refine ⟨_, rfl, ?_⟩
  simp only [RVL_cons, RV_int]
  exact ⟨_, _, rfl, rfl, _, _, rfl, rfl, rfl⟩
theorem total1_s (n lo hi : Nat) (hh : hi + (lo + n) / 18446744073709551616 < 18446744073709551616) : PSpec cfg G 41 2 [.int .u64 (n : Int), .ptr 0 0, .ptr 1 0] [(0, 27, .int .u64 (lo : Int)), (1, 27, .int .u64 (hi : Int))] fun w hp nw =>
    hp = [(0, 27, .int .u64 (((lo + n) % 18446744073709551616 : Nat) : Int)), (1, 27, .int .u64 ((hi + (lo + n) / 18446744073709551616 : Nat) : Int))] ∧ nw = 2 := by
  intro R
  refine spec_in (fn := Try.f41) rfl rfl rfl (Nat.le_of_ble_eq_true rfl) (fun k0 => ?_)
  refine co_seq ?_
  refine co_region ?_
  refine op_mem rfl rfl ?_
  refine op_pure rfl rfl ?_
  (refine op_step rfl (step_add64 (a := lo) (b := n) rfl rfl rfl rfl ?_))
  iterate 5 refine op_pure rfl rfl ?_
  refine op_nil ?_
  refine q_seq ?_
  refine co_flow ?_
  iterate 3 first | refine fl_pure rfl rfl ?_ | refine fl_mem rfl rfl (by first | rfl | kernel_rfl) ?_
  refine fl_nat (hi + (lo + n) / 18446744073709551616) rfl rfl (by first | rfl | omega) ⟨by omega, by omega⟩ ?_
  iterate 2 refine fl_mem rfl rfl (by first | rfl | kernel_rfl) ?_
  refine fl_nil ?_
  exact fin (w := .tup []) (.inl rfl) (ent_sub (fr2 := []) trivial rfl rfl) rfl ⟨rfl, rfl, rfl⟩
noncomputable def totH (t : Tree) (a : Nat) : HpW := [(3, 83, .fn 41 [] [.ptr 2 0, .ptr 1 0]), (2, 27, .int .u64 ((a % 18446744073709551616 : Nat) : Int)), (1, 27, .int .u64 ((a / 18446744073709551616 : Nat) : Int)), (0, 24, tW t)]
def bal (p : Pr) : Nat := (readA p.2).1.balance
def sumB (l : List Pr) : Nat := (l.map bal).sum
theorem bal_lt (p : Pr) : bal p < 18446744073709551616 := by
  unfold bal readA
  split
  · exact Nat.zero_lt_succ _
  · split
    · exact Nat.zero_lt_succ _
    · split
      · exact Nat.zero_lt_succ _
      · have h := numB_lt (p.2.drop 8)
        have e : (p.2.drop 8).length = 8 := by rw [List.length_drop]; omega
        rw [e] at h
        exact h
theorem sumB_take {l : List Pr} {i : Nat} {y : Pr} (h : l[i]? = some y) : sumB (l.take (i + 1)) = sumB (l.take i) + bal y := by
  rw [List.take_add_one, h]
  simp [sumB]
theorem sumB_lt : ∀ l : List Pr, sumB l ≤ l.length * 18446744073709551615
  | [] => by simp [sumB]
  | p :: l => by
    have h1 := bal_lt p
    have h2 := sumB_lt l
    simp only [sumB, List.map_cons, List.sum_cons, List.length_cons] at h2 ⊢
    omega
theorem atotal_s (t : Tree) (n : Nat) (t0 : T) (h : IsA t n t0) : PS cfg G 16 [tW t] (.tup [.int .u64 ((sumB t0.all / 18446744073709551616 : Nat) : Int), .int .u64 ((sumB t0.all % 18446744073709551616 : Nat) : Int), .int .i64 0]) := by
  have yes : MayA t := ⟨n, t0, h⟩
  have hl := h.len
  have hal := h.all_le
  refine ps_in (fn := Try.f16) rfl rfl rfl (Nat.le_of_ble_eq_true rfl) (fun R k0 => ?_)
  refine co_seq ?_
  refine co_region ?_
  iterate 3 refine op_mem rfl rfl ?_
  refine op_pure rfl rfl ?_
  refine op_nil ?_
  refine q_seq ?_
  iterate 2 refine co_seq ?_
  refine co_region ?_
  refine op_mem rfl rfl ?_
  refine op_ps rfl rfl rfl rfl rfl rfl (ps_eq (w' := .int .i64 0) (acheck_s t (by omega)) (by rw [if_pos yes])) (by first | rfl | assumption | (simp; done)) (by first | rfl | assumption | (simp; done)) ?_
  refine op_pure rfl rfl ?_
  refine op_nil ?_
  refine q_seq ?_
  refine co_seq ?_
  refine co_region ?_
  refine op_pure rfl rfl ?_
  refine op_cmp rfl rfl (by first | exact ltI_iff | exact eqI_iff | exact nlt_iff | exact neq_iff | exact dec_iff | exact bool_iff) ?_
  refine op_nil ?_
  refine q_seq ?_
  refine co_false rfl ?_
  refine co_skip ?_
  refine q_seq ?_
  refine co_seq ?_
  refine co_region ?_
  iterate 3 first | refine op_pure rfl rfl ?_ | refine op_mem rfl rfl ?_
  refine op_nil ?_
  refine q_seq ?_
  iterate 2 refine co_seq ?_
  refine co_region ?_
  refine op_mem rfl rfl ?_
  refine op_ps rfl rfl rfl rfl rfl rfl (aeach_s _) (by first | rfl | assumption | (simp; done)) (by first | rfl | assumption | (simp; done)) ?_
  refine op_nil ?_
  refine q_seq ?_
  refine co_block ?_
  refine co_rangeG (encA) (t0.all) (fun i (a : Nat) => a = sumB (t0.all.take i)) (fun a => totH t a) (fun _ => R) (0) rfl (by first | rfl | assumption | (simp; done)) (aeach_it t n t0 h.toIsT) (encA_ok) (by simp [sumB]) rfl rfl (fun i a y hy hI => ?_) (fun a hI => ?_)
  · have hi := (List.getElem?_eq_some_iff.1 hy).1
    have hs := sumB_take hy
    have hb := sumB_lt (t0.all.take (i + 1))
    have hb2 : (t0.all.take (i + 1)).length ≤ 262144 := by rw [List.length_take]; omega
    rw [← hI] at hs
    rw [hs] at hb
    refine co_region ?_
    iterate 2 refine op_mem rfl rfl ?_
    refine op_nil ?_
    refine q_asg ?_
    refine co_block ?_
    refine co_region ?_
    iterate 3 first | refine op_mem rfl rfl ?_ | refine op_pure rfl rfl ?_
    (refine op_step rfl (step_call (ext := [2, 1]) (ws := [.int .u64 ((bal y : Nat) : Int), .ptr 0 0, .ptr 1 0]) rfl rfl rfl rfl rfl (total1_s (bal y) (a % 18446744073709551616) (a / 18446744073709551616) (by omega)) (by decide) (by intro b hb; simp only [List.mem_cons, List.not_mem_nil, or_false] at hb; show b < 5; omega) (by simp) (handed2 rfl rfl rfl rfl) rfl ?_); rintro w hp1 nw1 ⟨rfl, rfl⟩)
    refine op_nil ?_
    refine q_blkn (by intro i h; cases h) ?_
    refine q_round (sumB (t0.all.take (i + 1))) rfl (ent_low (nw2 := 4) (by show 4 ≤ 4; omega) (by show 4 ≤ 5; omega) trivial rfl (fun b x hb => ?_) (by show ([3, 2, 1, 0] : List Nat).Nodup; decide))
    have e1 : (a % 18446744073709551616 + bal y) % 18446744073709551616 = sumB (t0.all.take (i + 1)) % 18446744073709551616 := by rw [hs]; omega
    have e2 : a / 18446744073709551616 + (a % 18446744073709551616 + bal y) / 18446744073709551616 = sumB (t0.all.take (i + 1)) / 18446744073709551616 := by rw [hs]; omega
    match b, hb with
    | 0, hb => cases hb; exact ⟨by omega, rfl, ref_pur (tW_pur t)⟩
    | 1, hb => cases hb; exact ⟨by omega, by show some (27, W.int .u64 _) = _; rw [e2], rfl⟩
    | 2, hb => cases hb; exact ⟨by omega, by show some (27, W.int .u64 _) = _; rw [e1], rfl⟩
    | 3, hb => cases hb; exact ⟨by omega, rfl, rfl⟩
    | b + 4, hb => cases hb
  · rw [List.take_length] at hI
    subst hI
    refine q_blkn (by intro i h; cases h) ?_
    refine q_seq ?_
    refine co_seq ?_
    refine co_flow ?_
    iterate 4 refine fl_mem rfl rfl (by first | rfl | kernel_rfl) ?_
    refine fl_pure rfl rfl ?_
    refine fl_nil ?_
    refine q_seq ?_
    refine co_ret ?_
    exact fin_eq (.inr rfl) rfl rfl
end Go.Proofs.Ytgeelfdgnehdnaa
namespace Go.Proofs.Ytgeelfdgnehdnaa
open Go.RowKit
set_option linter.unusedSimpArgs false
set_option linter.unusedVariables false
attribute [local irreducible] CoW OpW FlW Step Spec
variable {G : Nat → Option W}
def GreatB (t : Tree) (m : Nat) : Prop := m < t.nodes.length ∨ ∃ i x, i ≤ m ∧ t.nodes[i]? = some x ∧ 100 < x.val.length
noncomputable instance (t : Tree) (m : Nat) : Decidable (GreatB t m) := Classical.propDecidable _
theorem great_s (t : Tree) (m : Nat) (hb : t.nodes.length ≤ 4611686018427387903) (hm : m ≤ 4611686018427387903) : PS cfg G 8 [tW t, .int .i64 (m : Int)] (.bool (decide (GreatB t m))) := by
  have e : (t.nodes.map nW).length = t.nodes.length := List.length_map _
  refine ps_in (fn := Try.f8) rfl rfl rfl (Nat.le_of_ble_eq_true rfl) (fun R k0 => ?_)
  refine co_seq ?_
  refine co_region ?_
  refine op_mem rfl rfl ?_
  refine op_pure rfl rfl ?_
  refine op_nil ?_
  refine q_seq ?_
  iterate 2 refine co_seq ?_
  refine co_region ?_
  refine op_pure rfl rfl ?_
  refine op_nil ?_
  refine q_seq ?_
  refine co_block ?_
  refine co_loopK (α := Nat) (fun i => i ≤ t.nodes.length ∧ ∀ j x, j < i → t.nodes[j]? = some x → x.val.length ≤ 100) (fun i => [(5, .int .i64 (i : Int))]) [(1, _), (2, _), (4, _)] (fun i => t.nodes.length - i) (0) ⟨rfl, rfl, rfl, trivial⟩ (⟨Nat.zero_le _, fun j x h => by omega⟩) ⟨rfl, trivial⟩ (fun i hI => ?_)
  obtain ⟨hI, hJ⟩ := hI
  iterate 2 refine co_seq ?_
  refine co_region ?_
  iterate 2 refine op_pure rfl rfl ?_
  refine op_mem rfl rfl ?_
  refine op_val (w' := .int .i64 (t.nodes.length : Int)) rfl rfl (by rw [← e]; rfl) ?_
  refine op_dec rfl rfl (by first | exact ltI_iff | exact eqI_iff | exact nlt_iff | exact neq_iff | exact dec_iff | exact bool_iff) (fun h1 => ?_) (fun h1 => ?_)
  · have hi : i < t.nodes.length := by omega
    obtain ⟨x, hx⟩ : ∃ x, t.nodes[i]? = some x := ⟨_, List.getElem?_eq_getElem hi⟩
    have ex := bytesW_len x.val
    iterate 3 refine op_pure rfl rfl ?_
    refine op_cmp rfl rfl (by first | exact ltI_iff | exact eqI_iff | exact nlt_iff | exact neq_iff | exact dec_iff | exact bool_iff) ?_
    refine op_pure rfl rfl ?_
    refine op_nil ?_
    refine q_seq ?_
    refine co_dec rfl (by first | exact ltI_iff | exact eqI_iff | exact nlt_iff | exact neq_iff | exact dec_iff | exact bool_iff) (fun h2 => ?_) (fun h2 => ?_)
    · refine co_skip ?_
      refine q_seq ?_
      iterate 4 first | refine co_seq ?_ | refine co_block ?_ | refine co_region ?_
      iterate 3 first | refine op_pure rfl rfl ?_ | refine op_mem rfl rfl ?_
      refine op_pure rfl (ix_fz (i := i) rfl rfl rfl rfl rfl rfl rfl (map_at nW hx)) ?_
      refine op_pure rfl rfl ?_
      refine op_mem rfl rfl ?_
      refine op_val (w' := .int .i64 (x.val.length : Int)) rfl rfl (by rw [← ex]; rfl) ?_
      refine op_cmp rfl rfl (by first | exact ltI_iff | exact eqI_iff | exact nlt_iff | exact neq_iff | exact dec_iff | exact bool_iff) ?_
      refine op_nil ?_
      refine q_seq ?_
      refine co_dec rfl (by first | exact ltI_iff | exact eqI_iff | exact nlt_iff | exact neq_iff | exact dec_iff | exact bool_iff) (fun h3 => ?_) (fun h3 => ?_)
      · refine co_seq ?_
        refine co_region ?_
        refine op_pure rfl rfl ?_
        refine op_nil ?_
        refine q_seq ?_
        refine co_ret ?_
        refine q_blkn (by intro i h; cases h) ?_
        refine q_seqx (by intro h; cases h) ?_
        refine q_outk (by intro h; cases h) ?_
        refine q_blkn (by intro i h; cases h) ?_
        refine q_seqx (by intro h; cases h) ?_
        exact fin_eq (.inr rfl) rfl (by rw [decide_eq_true (show GreatB t m from .inr ⟨i, x, by omega, hx, by omega⟩)])
      · refine co_skip ?_
        refine q_blkn (by intro i h; cases h) ?_
        refine q_seq ?_
        refine co_region ?_
        refine op_pure rfl rfl ?_
        refine op_nat (i + 1) rfl rfl (by first | rfl | omega) ⟨by omega, by omega⟩ ?_
        refine op_pure rfl rfl ?_
        refine op_nil ?_
        exact q_againK (i + 1) (⟨hi, fun j y hj hy => by rcases Nat.lt_succ_iff_lt_or_eq.1 hj with q | rfl; exact hJ j y q hy; have := Option.some.inj (hx.symm.trans hy); subst this; omega⟩) (by omega) ⟨rfl, trivial⟩ ⟨rfl, rfl, rfl, trivial⟩ (by repeat (first | exact trivial | refine ⟨by first | rfl | exact ref_pur (by first | rfl | (simp; done)), ?_⟩)) (by omega) (by repeat (first | exact keeps_refl | refine keeps_cons (by omega) ?_ | refine keeps_hset (by omega) ?_ | refine keeps_hdel (by omega) ?_)) rfl
    · refine co_exit ?_
      refine q_seqx (by intro h; cases h) ?_
      refine q_outk (by intro h; cases h) ?_
      refine q_blk ?_
      refine q_seq ?_
      refine co_seq ?_
      refine co_region ?_
      refine op_pure rfl rfl ?_
      refine op_mem rfl rfl ?_
      refine op_val (w' := .int .i64 (t.nodes.length : Int)) rfl rfl (by rw [← e]; rfl) ?_
      refine op_pure rfl rfl ?_
      refine op_cmp rfl rfl (by first | exact ltI_iff | exact eqI_iff | exact nlt_iff | exact neq_iff | exact dec_iff | exact bool_iff) ?_
      refine op_pure rfl rfl ?_
      refine op_nil ?_
      refine q_seq ?_
      refine co_ret ?_
      exact fin_eq (.inr rfl) rfl (by rw [decide_eq_true (show GreatB t m from .inl (by omega))]; congr 1; exact decide_eq_true (show (m : Int) < (t.nodes.length : Int) by omega))
  · iterate 6 first | refine op_pure rfl rfl ?_ | refine op_skip rfl ?_ | refine op_nil ?_
    refine q_seq ?_
    refine co_false rfl ?_
    refine co_exit ?_
    refine q_seqx (by intro h; cases h) ?_
    refine q_outk (by intro h; cases h) ?_
    refine q_blk ?_
    refine q_seq ?_
    refine co_seq ?_
    refine co_region ?_
    refine op_pure rfl rfl ?_
    refine op_mem rfl rfl ?_
    refine op_val (w' := .int .i64 (t.nodes.length : Int)) rfl rfl (by rw [← e]; rfl) ?_
    refine op_pure rfl rfl ?_
    refine op_cmp rfl rfl (by first | exact ltI_iff | exact eqI_iff | exact nlt_iff | exact neq_iff | exact dec_iff | exact bool_iff) ?_
    refine op_pure rfl rfl ?_
    refine op_nil ?_
    refine q_seq ?_
    refine co_ret ?_
    refine fin_eq (.inr rfl) rfl ?_
    congr 1
    refine decide_eq_decide.2 ⟨fun q => .inl (show m < t.nodes.length by have q : (m : Int) < (t.nodes.length : Int) := q; omega), ?_⟩
    rintro (q | ⟨j, x, _, hx, hq⟩)
    · show (m : Int) < (t.nodes.length : Int)
      omega
    · have := hJ j x (by have := (List.getElem?_eq_some_iff.1 hx).1; omega) hx
      omega
theorem cv_str {C : Cfg} {G : Nat → Option W} {fr : FrW} {hp : HpW} {nw : Nat} {s t e : TypeId} {x : Operand} {js jt : TyI} {l : List UInt8} {f : Bool} (hs : C.ty s = some js) (ht : C.ty t = some jt) (hx : evW C G fr x = some (.fz (bytesW l) 1 f)) (hjs : js.d = .slice e) (hjt : jt.d = .str) (he : descOf C e = some (.int .u8)) : opHW C G fr hp nw (.convert s t x) = some (.str l, hp, nw, .gen) := by
  simp only [opHW, hConv, hs, ht, hx, hjs, hjt, he, bytesOf_W]
theorem same_s (a b : List UInt8) (f g : Bool) : PS cfg G 28 [.fz (bytesW a) 1 f, .fz (bytesW b) 1 g] (.bool (decide (a = b))) := by
  refine ps_in (fn := Try.f28) rfl rfl rfl (Nat.le_of_ble_eq_true rfl) (fun R k0 => ?_)
  refine co_seq ?_
  refine co_region ?_
  refine op_pure rfl rfl ?_
  refine op_nil ?_
  refine q_seq ?_
  refine co_seq ?_
  refine co_region ?_
  refine op_pure rfl rfl ?_
  refine op_mem rfl (cv_str rfl rfl rfl rfl rfl rfl) ?_
  refine op_pure rfl rfl ?_
  refine op_mem rfl (cv_str rfl rfl rfl rfl rfl rfl) ?_
  refine op_val (w' := .bool (decide (a = b))) rfl rfl (congrArg W.bool (bytesEq_eq a b)) ?_
  refine op_pure rfl rfl ?_
  refine op_nil ?_
  refine q_seq ?_
  refine co_ret ?_
  exact fin_eq (.inr rfl) rfl rfl
theorem alive_b : bytesA ⟨1, 258⟩ = [0, 0, 0, 0, 0, 0, 0, 1, 0, 0, 0, 0, 0, 0, 1, 2] := by rfl
theorem alive_r : readA (bytesA ⟨1, 258⟩) = (⟨1, 258⟩, 0) := read_bytes _ ⟨by decide, by decide⟩ (by intro h; cases h)
theorem alive_s : PS cfg G 7 [] (.bool true) := by
  refine ps_in (fn := Try.f7) rfl rfl rfl (Nat.le_of_ble_eq_true rfl) (fun R k0 => ?_)
  refine co_seq ?_
  refine co_region ?_
  refine op_pure rfl rfl ?_
  refine op_nil ?_
  refine q_seq ?_
  refine co_seq ?_
  refine co_region ?_
  refine op_pure rfl rfl ?_
  refine op_ps rfl rfl rfl rfl rfl rfl (abytes_s ⟨1, 258⟩ ⟨by decide, by decide⟩) (by first | rfl | assumption | (simp; done)) (by first | rfl | assumption | (simp; done)) ?_
  refine op_pure rfl rfl ?_
  refine op_nil ?_
  refine q_seq ?_
  refine co_seq ?_
  refine co_region ?_
  refine op_pure rfl rfl ?_
  refine op_ps rfl rfl rfl rfl rfl rfl (ps_eq (w' := .tup [aW ⟨1, 258⟩, .int .i64 0]) (aread_s (bytesA ⟨1, 258⟩) false (by rw [alive_b]; simp)) (by rw [alive_r]; rfl)) (by first | rfl | assumption | (simp; done)) (by first | rfl | assumption | (simp; done)) ?_
  iterate 6 first | refine op_pure rfl rfl ?_ | refine op_mem rfl rfl ?_
  refine op_nil ?_
  refine q_seq ?_
  refine co_seq ?_
  refine co_region ?_
  refine op_pure rfl rfl ?_
  refine op_mem rfl rfl ?_
  refine op_lk rfl rfl rfl rfl rfl (by (repeat (first | exact .nil | refine .cons ?_ ?_ | (refine .sl rfl ?_ rfl (by intro h; cases h); first | rfl | (focus (simp; done))) | (refine view_box rfl ?_ rfl; first | rfl | (focus (simp; done))) | (refine .pur ?_; first | rfl | (focus (simp; done)))))) (ps_eq (w' := .bool true) (same_s (bytesA ⟨1, 258⟩) [0, 0, 0, 0, 0, 0, 0, 1, 0, 0, 0, 0, 0, 0, 1, 2] false false) (by rw [alive_b]; rfl)) (by first | rfl | assumption | (simp; done)) (by first | rfl | assumption | (simp; done)) ?_
  refine op_bs (by first | exact ltI_iff | exact eqI_iff | exact nlt_iff | exact neq_iff | exact dec_iff | exact bool_iff) (fun h1 => ?_) (fun h1 => ?_)
  · iterate 2 refine op_pure rfl rfl ?_
    refine op_dec rfl rfl (by first | exact ltI_iff | exact eqI_iff | exact nlt_iff | exact neq_iff | exact dec_iff | exact bool_iff) (fun h2 => ?_) (fun h2 => ?_)
    · iterate 4 first | refine op_pure rfl rfl ?_ | refine op_mem rfl rfl ?_
      refine op_pure rfl (bin_eql rfl rfl rfl rfl (eq_acct ⟨1, 258⟩ ⟨1, 258⟩)) ?_
      iterate 2 refine op_pure rfl rfl ?_
      refine op_nil ?_
      refine q_seq ?_
      refine co_ret ?_
      exact fin_eq (.inr rfl) rfl (by simp)
    · exfalso; exact h2 rfl
  · exfalso; exact h1 rfl
end Go.Proofs.Ytgeelfdgnehdnaa
namespace Go.Proofs.Ytgeelfdgnehdnaa
open Go.RowKit
set_option linter.unusedSimpArgs false
set_option linter.unusedVariables false
attribute [local irreducible] CoW OpW FlW Step Spec
variable {G : Nat → Option W}
theorem sumB_cons (p : Pr) (l : List Pr) : sumB (p :: l) = bal p + sumB l := by simp [sumB]
theorem sumB_app (l r : List Pr) : sumB (l ++ r) = sumB l + sumB r := by simp [sumB]
theorem sumB_two (k : Dig) : ∀ l : List Pr, sumB (l.filter fun p => aheadD p.1 k) + sumB (l.filter fun p => aheadD k p.1) = sumB (withoutL l k)
  | [] => rfl
  | p :: l => by
    have ih := sumB_two k l
    simp only [withoutL] at ih ⊢
    by_cases e : p.1 = k
    · have h1 : aheadD p.1 k = false := by rw [e]; exact ahead_self k
      have h2 : aheadD k p.1 = false := by rw [e]; exact ahead_self k
      rw [List.filter_cons_of_neg (by rw [h1]; exact Bool.false_ne_true), List.filter_cons_of_neg (by rw [h2]; exact Bool.false_ne_true), List.filter_cons_of_neg (by simp [e])]
      exact ih
    · rw [List.filter_cons_of_pos (p := fun p : Pr => decide (p.1 ≠ k)) (by simp [e]), sumB_cons]
      rcases ahead_total e with h | h
      · rw [List.filter_cons_of_pos (p := fun p : Pr => aheadD p.1 k) h, List.filter_cons_of_neg (by rw [ahead_asymm h]; exact Bool.false_ne_true), sumB_cons]
        omega
      · rw [List.filter_cons_of_neg (p := fun p : Pr => aheadD p.1 k) (by rw [ahead_asymm h]; exact Bool.false_ne_true), List.filter_cons_of_pos (p := fun p : Pr => aheadD k p.1) h, sumB_cons]
        omega
theorem sumB_with (l : List Pr) (k : Dig) (v : List UInt8) : sumB (withL l k v) = sumB (withoutL l k) + bal (k, v) := by
  have h := sumB_two k l
  unfold withL
  rw [sumB_app, sumB_cons]
  show sumB (l.filter fun p => aheadD p.1 k) + (bal (k, v) + sumB (l.filter fun p => aheadD k p.1)) = _
  rw [← h]
  omega
def optB (k : Dig) : Option (List UInt8) → Nat
  | none => 0
  | some v => bal (k, v)
theorem sumB_split (k : Dig) : ∀ l : List Pr, Srt l → sumB l = sumB (withoutL l k) + optB k (findL l k)
  | [], _ => rfl
  | p :: l, hs => by
    obtain ⟨h1, h2⟩ := List.pairwise_cons.1 hs
    by_cases e : p.1 = k
    · have hno : ∀ q ∈ l, q.1 ≠ k := fun q hq => by rw [← e]; exact (ahead_ne (h1 q hq)).symm
      have h3 : withoutL (p :: l) k = l := by
        have := withoutL_self hno
        simp only [withoutL] at this ⊢
        rw [List.filter_cons_of_neg (by simp [e]), this]
      have h4 : findL (p :: l) k = some p.2 := by simp [findL, List.find?_cons, e]
      rw [h3, h4, sumB_cons]
      simp only [optB]
      have : bal (k, p.2) = bal p := rfl
      omega
    · have ih := sumB_split k l h2
      have h3 : withoutL (p :: l) k = p :: withoutL l k := by simp only [withoutL]; rw [List.filter_cons_of_pos (by simp [e])]
      have h4 : findL (p :: l) k = findL l k := by simp [findL, List.find?_cons, e]
      rw [h3, h4, sumB_cons, sumB_cons]
      omega
theorem total_turns {t0 t1 : T} {t t' : Tree} {n n' : Nat} (h : IsA t n t0) (h' : IsA t' n' t1) {k : Dig} {a : Acct} (ha : a.ok) (hall : t1.all = setL t0.all k a) : ∃ w, sumB t0.all = w + (acctOf t0 k).balance ∧ sumB t1.all = w + a.balance := by
  refine ⟨sumB (withoutL t0.all k), ?_, ?_⟩
  · rw [sumB_split k _ h.srt]
    unfold acctOf
    rw [find_spec k zr_zero h.ok]
    cases findL t0.all k <;> rfl
  · rw [hall]
    unfold setL
    by_cases hz : a = .zero
    · rw [if_pos hz, hz]; rfl
    · rw [if_neg hz, sumB_with]
      have : bal (k, bytesA a) = a.balance := by unfold bal; rw [read_bytes a ha hz]
      omega
theorem acctOf_lt (t0 : T) (k : Dig) : (acctOf t0 k).balance < 18446744073709551616 := by
  unfold acctOf
  split
  · exact Nat.zero_lt_succ _
  · rename_i v _; exact bal_lt (k, v)
theorem wrap_sub {a b w : Nat} (ha : a < 18446744073709551616) (hb : b < 18446744073709551616) (h : (w + b) % 18446744073709551616 = a) : W.int .u64 (wrapF .u64 ((a : Int) - (b : Int))) = W.int .u64 ((w % 18446744073709551616 : Nat) : Int) := by
  have e : wrapF .u64 ((a : Int) - (b : Int)) = ((a : Int) - (b : Int)) % 18446744073709551616 := by
    rw [wrapF_eq]; rfl
  rw [e]
  congr 1
  omega
theorem atot_s (t : Tree) (k : Dig) (a : Acct) (ha : a.ok) (hb : t.nodes.length ≤ 4611686018427387903) : PS cfg G 5 [tW t, dW k, aW a] (.bool true) := by
  by_cases hg : GreatB t 600
  · skip
    refine ps_in (fn := Try.f5) rfl rfl rfl (Nat.le_of_ble_eq_true rfl) (fun R k0 => ?_)
    refine co_seq ?_
    refine co_region ?_
    iterate 3 refine op_mem rfl rfl ?_
    refine op_pure rfl rfl ?_
    refine op_nil ?_
    refine q_seq ?_
    refine co_seq ?_
    refine co_region ?_
    refine op_ps rfl rfl rfl rfl rfl rfl (alive_s) (by first | rfl | assumption | (simp; done)) (by first | rfl | assumption | (simp; done)) ?_
    refine op_bs (by first | exact ltI_iff | exact eqI_iff | exact nlt_iff | exact neq_iff | exact dec_iff | exact bool_iff) (fun h1 => ?_) (fun h1 => ?_)
    · refine op_pure rfl rfl ?_
      refine op_nil ?_
      refine q_seq ?_
      iterate 2 refine co_seq ?_
      refine co_region ?_
      refine op_mem rfl rfl ?_
      refine op_ps rfl rfl rfl rfl rfl rfl (ps_eq (w' := .bool true) (great_s t 600 hb (by omega)) (by rw [decide_eq_true hg])) (by first | rfl | assumption | (simp; done)) (by first | rfl | assumption | (simp; done)) ?_
      refine op_bs (by first | exact ltI_iff | exact eqI_iff | exact nlt_iff | exact neq_iff | exact dec_iff | exact bool_iff) (fun h2 => ?_) (fun h2 => ?_)
      · iterate 5 first | refine op_pure rfl rfl ?_ | refine op_skip rfl ?_ | refine op_nil ?_
        refine q_seq ?_
        refine co_true rfl ?_
        refine co_seq ?_
        refine co_region ?_
        iterate 2 refine op_pure rfl rfl ?_
        refine op_nil ?_
        refine q_seq ?_
        refine co_ret ?_
        refine q_seqx (by intro h; cases h) ?_
        exact fin_eq (.inr rfl) rfl rfl
      · exfalso; exact h2 rfl
    · exfalso; exact h1 rfl
  · have hl : t.nodes.length ≤ 600 := Nat.le_of_not_lt fun q => hg (.inl q)
    by_cases hA : MayA t
    · obtain ⟨n, t0, h⟩ := hA
      refine ps_in (fn := Try.f5) rfl rfl rfl (Nat.le_of_ble_eq_true rfl) (fun R k0 => ?_)
      refine co_seq ?_
      refine co_region ?_
      iterate 3 refine op_mem rfl rfl ?_
      refine op_pure rfl rfl ?_
      refine op_nil ?_
      refine q_seq ?_
      refine co_seq ?_
      refine co_region ?_
      refine op_ps rfl rfl rfl rfl rfl rfl (alive_s) (by first | rfl | assumption | (simp; done)) (by first | rfl | assumption | (simp; done)) ?_
      refine op_bs (by first | exact ltI_iff | exact eqI_iff | exact nlt_iff | exact neq_iff | exact dec_iff | exact bool_iff) (fun h1 => ?_) (fun h1 => ?_)
      · refine op_pure rfl rfl ?_
        refine op_nil ?_
        refine q_seq ?_
        iterate 2 refine co_seq ?_
        refine co_region ?_
        refine op_mem rfl rfl ?_
        refine op_ps rfl rfl rfl rfl rfl rfl (ps_eq (w' := .bool false) (great_s t 600 hb (by omega)) (by rw [decide_eq_false hg])) (by first | rfl | assumption | (simp; done)) (by first | rfl | assumption | (simp; done)) ?_
        refine op_bs (by first | exact ltI_iff | exact eqI_iff | exact nlt_iff | exact neq_iff | exact dec_iff | exact bool_iff) (fun h2 => ?_) (fun h2 => ?_)
        · exfalso; cases h2
        · iterate 4 refine op_pure rfl rfl ?_
          refine op_nil ?_
          refine q_seq ?_
          refine co_false rfl ?_
          refine co_skip ?_
          refine q_seq ?_
          refine co_seq ?_
          refine co_region ?_
          iterate 3 refine op_mem rfl rfl ?_
          (refine op_step rfl (step_pe rfl rfl rfl rfl rfl (aset_s t n t0 k a h ha (by omega)) (by simp) ?_); rintro w hw ⟨t', n', t1, h', hall, rfl⟩)
          iterate 7 first | refine op_pure rfl rfl ?_ | refine op_mem rfl rfl ?_ | refine op_nil ?_
          refine q_seq ?_
          refine co_seq ?_
          refine co_region ?_
          iterate 2 refine op_mem rfl rfl ?_
          refine op_ps rfl rfl rfl rfl rfl rfl (aget_s t n t0 h k) (by simp) (by simp) ?_
          iterate 7 first | refine op_pure rfl rfl ?_ | refine op_mem rfl rfl ?_ | refine op_nil ?_
          refine q_seq ?_
          iterate 2 refine co_seq ?_
          refine co_region ?_
          refine op_pure rfl rfl ?_
          refine op_dec rfl rfl (by first | exact ltI_iff | exact eqI_iff | exact nlt_iff | exact neq_iff | exact dec_iff | exact bool_iff) (fun h3 => ?_) (fun h3 => ?_)
          · exfalso; exact h3 rfl
          · obtain ⟨w0, e0, e1⟩ := total_turns h h' ha hall
            have hob := acctOf_lt t0 k
            have hab := ha.2
            have b0 : sumB t0.all ≤ 600 * 18446744073709551615 := Nat.le_trans (sumB_lt _) (Nat.mul_le_mul_right _ (Nat.le_trans h.all_le hl))
            have b1 : sumB t1.all ≤ 262144 * 18446744073709551615 := Nat.le_trans (sumB_lt _) (Nat.mul_le_mul_right _ (Nat.le_trans h'.all_le h'.len))
            iterate 2 refine op_pure rfl rfl ?_
            refine op_cmp rfl rfl (by first | exact ltI_iff | exact eqI_iff | exact nlt_iff | exact neq_iff | exact dec_iff | exact bool_iff) ?_
            refine op_pure rfl rfl ?_
            refine op_nil ?_
            refine q_seq ?_
            refine co_false rfl ?_
            refine co_skip ?_
            refine q_seq ?_
            refine co_seq ?_
            refine co_region ?_
            refine op_mem rfl rfl ?_
            refine op_ps rfl rfl rfl rfl rfl rfl (atotal_s t n t0 h) (by simp) (by simp) ?_
            iterate 8 first | refine op_pure rfl rfl ?_ | refine op_nil ?_
            refine q_seq ?_
            refine co_seq ?_
            refine co_region ?_
            refine op_mem rfl rfl ?_
            refine op_ps rfl rfl rfl rfl rfl rfl (atotal_s t' n' t1 h') (by simp) (by simp) ?_
            iterate 8 first | refine op_pure rfl rfl ?_ | refine op_nil ?_
            refine q_seq ?_
            refine co_seq ?_
            refine co_flow ?_
            iterate 3 first | refine fl_pure rfl rfl ?_ | refine fl_mem rfl rfl (by first | rfl | kernel_rfl) ?_
            refine fl_val (w' := .int .u64 ((w0 % 18446744073709551616 : Nat) : Int)) rfl rfl (wrap_sub (Nat.mod_lt _ (by decide)) hob (by rw [e0])) ?_
            iterate 3 first | refine fl_pure rfl rfl ?_ | refine fl_mem rfl rfl (by first | rfl | kernel_rfl) ?_
            refine fl_val (w' := .int .u64 ((w0 % 18446744073709551616 : Nat) : Int)) rfl rfl (wrap_sub (Nat.mod_lt _ (by decide)) hab (by rw [e1])) ?_
            iterate 3 first | refine fl_pure rfl rfl ?_ | refine fl_nil ?_
            refine q_seq ?_
            iterate 3 first | refine co_seq ?_ | refine co_region ?_
            iterate 3 first | refine op_pure rfl rfl ?_ | refine op_mem rfl rfl ?_
            refine op_cmp rfl rfl (by first | exact ltI_iff | exact eqI_iff | exact nlt_iff | exact neq_iff | exact dec_iff | exact bool_iff) ?_
            refine op_nil ?_
            refine q_seq ?_
            refine co_dec rfl (by first | exact ltI_iff | exact eqI_iff | exact nlt_iff | exact neq_iff | exact dec_iff | exact bool_iff) (fun h4 => ?_) (fun h4 => ?_)
            · have h4 : ((sumB t0.all % 18446744073709551616 : Nat) : Int) < ((acctOf t0 k).balance : Int) := h4
              refine co_region ?_
              refine op_pure rfl rfl ?_
              refine op_nat (sumB t0.all / 18446744073709551616 - 1) rfl rfl (by first | rfl | omega) ⟨by omega, by omega⟩ ?_
              refine op_pure rfl rfl ?_
              refine op_nil ?_
              refine q_seq ?_
              iterate 3 first | refine co_seq ?_ | refine co_region ?_
              iterate 3 first | refine op_pure rfl rfl ?_ | refine op_mem rfl rfl ?_
              refine op_cmp rfl rfl (by first | exact ltI_iff | exact eqI_iff | exact nlt_iff | exact neq_iff | exact dec_iff | exact bool_iff) ?_
              refine op_nil ?_
              refine q_seq ?_
              refine co_dec rfl (by first | exact ltI_iff | exact eqI_iff | exact nlt_iff | exact neq_iff | exact dec_iff | exact bool_iff) (fun h5 => ?_) (fun h5 => ?_)
              · have h5 : ((sumB t1.all % 18446744073709551616 : Nat) : Int) < (a.balance : Int) := h5
                refine co_region ?_
                refine op_pure rfl rfl ?_
                refine op_nat (sumB t1.all / 18446744073709551616 - 1) rfl rfl (by first | rfl | omega) ⟨by omega, by omega⟩ ?_
                refine op_pure rfl rfl ?_
                refine op_nil ?_
                refine q_seq ?_
                refine co_seq ?_
                refine co_region ?_
                iterate 3 refine op_pure rfl rfl ?_
                refine op_dec rfl rfl (by first | exact ltI_iff | exact eqI_iff | exact nlt_iff | exact neq_iff | exact dec_iff | exact bool_iff) (fun h6 => ?_) (fun h6 => ?_)
                · iterate 3 refine op_pure rfl rfl ?_
                  refine op_dec rfl rfl (by first | exact ltI_iff | exact eqI_iff | exact nlt_iff | exact neq_iff | exact dec_iff | exact bool_iff) (fun h7 => ?_) (fun h7 => ?_)
                  · iterate 4 refine op_pure rfl rfl ?_
                    refine op_dec rfl rfl (by first | exact ltI_iff | exact eqI_iff | exact nlt_iff | exact neq_iff | exact dec_iff | exact bool_iff) (fun h8 => ?_) (fun h8 => ?_)
                    · iterate 4 refine op_pure rfl rfl ?_
                      refine op_cmp rfl rfl (by first | exact ltI_iff | exact eqI_iff | exact nlt_iff | exact neq_iff | exact dec_iff | exact bool_iff) ?_
                      iterate 3 first | refine op_pure rfl rfl ?_ | refine op_nil ?_
                      refine q_seq ?_
                      refine co_ret ?_
                      exact fin_eq (.inr rfl) rfl (by simp)
                    · exfalso; omega
                  · exfalso; exact h7 rfl
                · exfalso; exact h6 rfl
              · have h5 : ¬ ((sumB t1.all % 18446744073709551616 : Nat) : Int) < (a.balance : Int) := h5
                refine co_skip ?_
                refine q_seq ?_
                refine co_seq ?_
                refine co_region ?_
                iterate 3 refine op_pure rfl rfl ?_
                refine op_dec rfl rfl (by first | exact ltI_iff | exact eqI_iff | exact nlt_iff | exact neq_iff | exact dec_iff | exact bool_iff) (fun h6 => ?_) (fun h6 => ?_)
                · iterate 3 refine op_pure rfl rfl ?_
                  refine op_dec rfl rfl (by first | exact ltI_iff | exact eqI_iff | exact nlt_iff | exact neq_iff | exact dec_iff | exact bool_iff) (fun h7 => ?_) (fun h7 => ?_)
                  · iterate 4 refine op_pure rfl rfl ?_
                    refine op_dec rfl rfl (by first | exact ltI_iff | exact eqI_iff | exact nlt_iff | exact neq_iff | exact dec_iff | exact bool_iff) (fun h8 => ?_) (fun h8 => ?_)
                    · iterate 4 refine op_pure rfl rfl ?_
                      refine op_cmp rfl rfl (by first | exact ltI_iff | exact eqI_iff | exact nlt_iff | exact neq_iff | exact dec_iff | exact bool_iff) ?_
                      iterate 3 first | refine op_pure rfl rfl ?_ | refine op_nil ?_
                      refine q_seq ?_
                      refine co_ret ?_
                      exact fin_eq (.inr rfl) rfl (by simp)
                    · exfalso; omega
                  · exfalso; exact h7 rfl
                · exfalso; exact h6 rfl
            · have h4 : ¬ ((sumB t0.all % 18446744073709551616 : Nat) : Int) < ((acctOf t0 k).balance : Int) := h4
              refine co_skip ?_
              refine q_seq ?_
              iterate 3 first | refine co_seq ?_ | refine co_region ?_
              iterate 3 first | refine op_pure rfl rfl ?_ | refine op_mem rfl rfl ?_
              refine op_cmp rfl rfl (by first | exact ltI_iff | exact eqI_iff | exact nlt_iff | exact neq_iff | exact dec_iff | exact bool_iff) ?_
              refine op_nil ?_
              refine q_seq ?_
              refine co_dec rfl (by first | exact ltI_iff | exact eqI_iff | exact nlt_iff | exact neq_iff | exact dec_iff | exact bool_iff) (fun h5 => ?_) (fun h5 => ?_)
              · have h5 : ((sumB t1.all % 18446744073709551616 : Nat) : Int) < (a.balance : Int) := h5
                refine co_region ?_
                refine op_pure rfl rfl ?_
                refine op_nat (sumB t1.all / 18446744073709551616 - 1) rfl rfl (by first | rfl | omega) ⟨by omega, by omega⟩ ?_
                refine op_pure rfl rfl ?_
                refine op_nil ?_
                refine q_seq ?_
                refine co_seq ?_
                refine co_region ?_
                iterate 3 refine op_pure rfl rfl ?_
                refine op_dec rfl rfl (by first | exact ltI_iff | exact eqI_iff | exact nlt_iff | exact neq_iff | exact dec_iff | exact bool_iff) (fun h6 => ?_) (fun h6 => ?_)
                · iterate 3 refine op_pure rfl rfl ?_
                  refine op_dec rfl rfl (by first | exact ltI_iff | exact eqI_iff | exact nlt_iff | exact neq_iff | exact dec_iff | exact bool_iff) (fun h7 => ?_) (fun h7 => ?_)
                  · iterate 4 refine op_pure rfl rfl ?_
                    refine op_dec rfl rfl (by first | exact ltI_iff | exact eqI_iff | exact nlt_iff | exact neq_iff | exact dec_iff | exact bool_iff) (fun h8 => ?_) (fun h8 => ?_)
                    · iterate 4 refine op_pure rfl rfl ?_
                      refine op_cmp rfl rfl (by first | exact ltI_iff | exact eqI_iff | exact nlt_iff | exact neq_iff | exact dec_iff | exact bool_iff) ?_
                      iterate 3 first | refine op_pure rfl rfl ?_ | refine op_nil ?_
                      refine q_seq ?_
                      refine co_ret ?_
                      exact fin_eq (.inr rfl) rfl (by simp)
                    · exfalso; omega
                  · exfalso; exact h7 rfl
                · exfalso; exact h6 rfl
              · have h5 : ¬ ((sumB t1.all % 18446744073709551616 : Nat) : Int) < (a.balance : Int) := h5
                refine co_skip ?_
                refine q_seq ?_
                refine co_seq ?_
                refine co_region ?_
                iterate 3 refine op_pure rfl rfl ?_
                refine op_dec rfl rfl (by first | exact ltI_iff | exact eqI_iff | exact nlt_iff | exact neq_iff | exact dec_iff | exact bool_iff) (fun h6 => ?_) (fun h6 => ?_)
                · iterate 3 refine op_pure rfl rfl ?_
                  refine op_dec rfl rfl (by first | exact ltI_iff | exact eqI_iff | exact nlt_iff | exact neq_iff | exact dec_iff | exact bool_iff) (fun h7 => ?_) (fun h7 => ?_)
                  · iterate 4 refine op_pure rfl rfl ?_
                    refine op_dec rfl rfl (by first | exact ltI_iff | exact eqI_iff | exact nlt_iff | exact neq_iff | exact dec_iff | exact bool_iff) (fun h8 => ?_) (fun h8 => ?_)
                    · iterate 4 refine op_pure rfl rfl ?_
                      refine op_cmp rfl rfl (by first | exact ltI_iff | exact eqI_iff | exact nlt_iff | exact neq_iff | exact dec_iff | exact bool_iff) ?_
                      iterate 3 first | refine op_pure rfl rfl ?_ | refine op_nil ?_
                      refine q_seq ?_
                      refine co_ret ?_
                      exact fin_eq (.inr rfl) rfl (by simp)
                    · exfalso; omega
                  · exfalso; exact h7 rfl
                · exfalso; exact h6 rfl
      · exfalso; exact h1 rfl
    · skip
      refine ps_in (fn := Try.f5) rfl rfl rfl (Nat.le_of_ble_eq_true rfl) (fun R k0 => ?_)
      refine co_seq ?_
      refine co_region ?_
      iterate 3 refine op_mem rfl rfl ?_
      refine op_pure rfl rfl ?_
      refine op_nil ?_
      refine q_seq ?_
      refine co_seq ?_
      refine co_region ?_
      refine op_ps rfl rfl rfl rfl rfl rfl (alive_s) (by first | rfl | assumption | (simp; done)) (by first | rfl | assumption | (simp; done)) ?_
      refine op_bs (by first | exact ltI_iff | exact eqI_iff | exact nlt_iff | exact neq_iff | exact dec_iff | exact bool_iff) (fun h1 => ?_) (fun h1 => ?_)
      · refine op_pure rfl rfl ?_
        refine op_nil ?_
        refine q_seq ?_
        iterate 2 refine co_seq ?_
        refine co_region ?_
        refine op_mem rfl rfl ?_
        refine op_ps rfl rfl rfl rfl rfl rfl (ps_eq (w' := .bool false) (great_s t 600 hb (by omega)) (by rw [decide_eq_false hg])) (by first | rfl | assumption | (simp; done)) (by first | rfl | assumption | (simp; done)) ?_
        refine op_bs (by first | exact ltI_iff | exact eqI_iff | exact nlt_iff | exact neq_iff | exact dec_iff | exact bool_iff) (fun h2 => ?_) (fun h2 => ?_)
        · exfalso; cases h2
        · iterate 4 refine op_pure rfl rfl ?_
          refine op_nil ?_
          refine q_seq ?_
          refine co_false rfl ?_
          refine co_skip ?_
          refine q_seq ?_
          refine co_seq ?_
          refine co_region ?_
          iterate 3 refine op_mem rfl rfl ?_
          refine op_ps rfl rfl rfl rfl rfl rfl (aset_no t hb hA k a) (by first | rfl | assumption | (simp; done)) (by first | rfl | assumption | (simp; done)) ?_
          iterate 7 first | refine op_pure rfl rfl ?_ | refine op_mem rfl rfl ?_ | refine op_nil ?_
          refine q_seq ?_
          refine co_seq ?_
          refine co_region ?_
          iterate 2 refine op_mem rfl rfl ?_
          refine op_ps rfl rfl rfl rfl rfl rfl (aget_no t hb hA k) (by first | rfl | assumption | (simp; done)) (by first | rfl | assumption | (simp; done)) ?_
          iterate 7 first | refine op_pure rfl rfl ?_ | refine op_mem rfl rfl ?_ | refine op_nil ?_
          refine q_seq ?_
          iterate 2 refine co_seq ?_
          refine co_region ?_
          refine op_pure rfl rfl ?_
          refine op_dec rfl rfl (by first | exact ltI_iff | exact eqI_iff | exact nlt_iff | exact neq_iff | exact dec_iff | exact bool_iff) (fun h3 => ?_) (fun h3 => ?_)
          · iterate 5 first | refine op_pure rfl rfl ?_ | refine op_skip rfl ?_ | refine op_nil ?_
            refine q_seq ?_
            iterate 3 first | refine co_true rfl ?_ | refine co_seq ?_ | refine co_region ?_
            iterate 3 refine op_pure rfl rfl ?_
            refine op_cmp rfl rfl (by first | exact ltI_iff | exact eqI_iff | exact nlt_iff | exact neq_iff | exact dec_iff | exact bool_iff) ?_
            refine op_pure rfl rfl ?_
            refine op_cmp rfl rfl (by first | exact ltI_iff | exact eqI_iff | exact nlt_iff | exact neq_iff | exact dec_iff | exact bool_iff) ?_
            refine op_cmp rfl rfl (by first | exact ltI_iff | exact eqI_iff | exact nlt_iff | exact neq_iff | exact dec_iff | exact bool_iff) ?_
            iterate 3 first | refine op_pure rfl rfl ?_ | refine op_nil ?_
            refine q_seq ?_
            refine co_ret ?_
            refine q_seqx (by intro h; cases h) ?_
            exact fin_eq (.inr rfl) rfl rfl
          · exfalso; exact h3 (by decide)
      · exfalso; exact h1 rfl
end Go.Proofs.Ytgeelfdgnehdnaa
namespace Go.Proofs.Ytgeelfdgnehdnaa
open Go.RowKit Go.ChangeShapes Go.WideShapes
set_option linter.unusedSimpArgs false
set_option linter.unusedVariables false
theorem returns_wt {H : Type} {enc : TypeId × Value → H} {a : Assume} {C : Checked} {os : Os} {f : FuncId} {fn : Func} {s : ChangeSpec} {conds : List PathCond} {apart fresh handsOn again : Bool}
    (own : ownKnob C.prog.godebug = none) (started : os.Started) (noInit : C.prog.inits.idxOf? f = none) (hfn : C.prog.funcs[f]? = some fn)
    (witness : ∃ (w : World) (tape : Tape) (i : Input), w.os = os ∧ (w.forCall tape i).Shaped C.prog ∧ i.vars = [] ∧ Input.okWide C.prog (w.forCall tape i) .any w.heap.size f i ∧
      s.pre6 enc C.prog fn conds apart (w.forCall tape i).memory i.args ∧ a.holds C.prog (lone (Frame.enter C.prog f i.args .normal) [] (w.forCall tape i)))
    (contract : ∀ (W : World) (base : Nat) (args : Array Value) (ds gs : List (DataW H)) (before : List MemPlace),
      (∀ (j : Nat) t v, fn.params[j]? = some t → args[j]? = some v → Value.okWide C.prog W .any base t v) →
      DataW.Whole enc C.prog fn.params.toList s.vars apart W args.toList ds gs before →
      conds.all (PathCond.test C.prog ⟨fn.params.toList, ds, s.plain.varTypes C.prog, gs⟩) = true →
      (DataW.weightsEach C.prog (fn.params.toList ++ s.plain.varTypes C.prog) (ds ++ gs)).all (· ≤ reachBytes) = true →
      a.holds C.prog (lone (Frame.enter C.prog f args .normal) [] W) →
      Calls C.prog f args W fun e W' => ∃ v, e = .returned v ∧ s.post enc C.prog fn apart fresh handsOn again W args v W') :
    ReturnsInHanded a C os f .any (s.pre6 enc C.prog fn conds apart) (s.post enc C.prog fn apart fresh handsOn again) := by
  refine returnsInHanded_of_calls own started noInit witness fun w tape i _ hsh hvars hok hpre hholds => ?_
  obtain ⟨hb, _, _, fn', hfn', _, _, _, _, hval⟩ := hok
  obtain rfl : fn' = fn := Option.some.inj (hfn'.symm.trans hfn)
  obtain ⟨⟨ds, gs, before, hw, hc⟩, hz⟩ := hpre
  refine (contract (w.forCall tape i) w.heap.size i.args ds gs before hval (DataW.Whole.of_heap (w' := w.forCall tape i) (by rfl) hw) hc (hz.weights hw) hholds).mono fun e W' ⟨v, he, hp⟩ => ?_
  subst he
  exact ChangeSpec.post_blind hp
mutual
/-- cells of the memory at the start that hold what a value says -/
def HC (W0 : World) : W → List Value → Prop
  | .bool b, cs => cs = [.bool b]
  | .int k n, cs => cs = [.int k n]
  | .agg n l, cs => cs.length = n ∧ HCL W0 l cs
  | .arr n e l, cs => cs.length = n ∧ (∀ x ∈ l, x.size = e) ∧ l.length * e = n ∧ HCL W0 l cs
  | .str x, cs => cs = [.string ⟨⟨x⟩⟩]
  | .fz l e f, cs => f = false ∧ ((l = [] ∧ cs = [.slice none 0 0]) ∨ (l = [] ∧ 0 < e ∧ ∃ (a : Addr) (bn : Nat) (cs' : Array Value) (ty : TypeId) (fz : Nat × Nat), cs = [.slice (some a) 0 0] ∧ W0.heap[bn]? = some (.cells cs' ty fz)) ∨ ∃ (a : Addr) (cap : Nat), cs = [.slice (some a) l.length cap] ∧ l.length ≤ cap ∧ a.spot = none ∧ 0 < e ∧ (∀ x ∈ l, x.size = e) ∧
      ∃ (pre mid tail : List Value) (ty : TypeId) (fz : Nat × Nat), W0.heap[a.block]? = some (.cells (pre ++ (mid ++ tail)).toArray ty fz) ∧ pre.length = a.off ∧ HCL W0 l mid)
  | _, _ => False
def HCL (W0 : World) : List W → List Value → Prop
  | [], cs => cs = []
  | x :: l, cs => ∃ a b, cs = a ++ b ∧ HC W0 x a ∧ HCL W0 l b
end
theorem HC.len {W0 : World} {w : W} {cs : List Value} (h : HC W0 w cs) : cs.length = w.size := by
  cases w <;> simp only [HC] at h <;> first
    | (subst h; rfl)
    | exact h.1
    | exact h.elim
    | (rcases h with ⟨_, ⟨_, rfl⟩ | ⟨_, _, _, _, _, _, _, rfl, _⟩ | ⟨a, cap, rfl, _⟩⟩ <;> rfl)
structure Start (W0 : World) (h : Heap) (ρ : Env) : Prop where
  wf : ∀ i, h.next ≤ i → h.get i = none
  ro : ∀ i b, h.get i = some b → ∃ v o, b = .ro v ∧ W0.heap[ρ.b i]? = some o ∧ KnB ρ i b o ∧ InB (DD (fun i => i < h.next) ρ) b
theorem Start.rel {W0 : World} {h : Heap} {ρ : Env} (s : Start W0 h ρ) {U : Nat} (hU : h.next ≤ U) : Rel W0 U (fun i => i < h.next) ρ h W0 := by
  refine ⟨fun i hi => .inl hi, s.wf, fun i b _ hb => ?_, fun i b _ hb => ?_, fun i j b c _ _ hb _ ho => ?_, fun i b _ hb ho => ?_, fun i j b c _ _ _ hc _ ho => ?_, Below.refl _ _⟩
  · obtain ⟨v, o, rfl, h1, h2, h3⟩ := s.ro i b hb
    exact ⟨o, h1, h2⟩
  · obtain ⟨v, o, rfl, h1, h2, h3⟩ := s.ro i b hb
    exact h3
  · obtain ⟨v, o, rfl, _⟩ := s.ro i b hb
    cases ho
  · obtain ⟨v, o, rfl, _⟩ := s.ro i b hb
    cases ho
  · obtain ⟨v, o, rfl, _⟩ := s.ro j c hc
    cases ho
theorem law1 {P : Program} {C : Cfg} {G : Nat → Option W} (hmx : P.follows .mixedOrders = true) (hC : CfgOK P C) (hF : FnsOK P C) (hK : KnownOK P C) {f : FuncId} {ws : List W} (sp : PS C G f ws (.bool true)) {W0 : World} {h : Heap} {ρ : Env} {vs : List V} (s : Start W0 h ρ)
    (gl : GlobOK C (DD (fun i => i < h.next) ρ) ρ) (gr : GRel C G ⟨0, fun i => i, fun i => i < h.next, h⟩) (hin : InDL (DD (fun i => i < h.next) ρ) vs) (hv : RVL ⟨0, fun i => i, fun i => i < h.next, h⟩ ws vs) :
    Calls P f (concL ρ vs).toArray W0 fun e w' => e = .returned (.bool true) ∧ Below W0.heap.size W0 w' := by
  obtain ⟨n, v, Γ', X', w, hp', R', g1, g2, g3, g4, g5, rfl⟩ := sp Res.none ⟨0, fun i => i, fun i => i < h.next, h⟩ (fun _ => False) vs rfl
    ⟨s.wf, fun b ty w hb => by simp [hget] at hb, fun b b' x y hb => by simp [hget] at hb, List.nodup_nil, fun _ _ h => h, fun _ h => h.elim, fun _ h => h, trivial, gr⟩ hv
  refine (run_calls hmx hC hF hK g1 gl hin (s.rel g3.next)).mono fun e w' => ?_
  rintro ⟨D', ρ', rfl, hb, _⟩
  have hvb : v = .bool true := by
    have := g4.one rfl
    simpa [RS] using this
  subst hvb
  exact ⟨rfl, hb⟩
end Go.Proofs.Ytgeelfdgnehdnaa
namespace Go.Proofs.Ytgeelfdgnehdnaa
open Go.RowKit
set_option linter.unusedSimpArgs false
set_option linter.unusedVariables false
structure Later (h : Heap) (ρ : Env) (h' : Heap) (ρ' : Env) : Prop where
  next : h.next ≤ h'.next
  get : ∀ i, i < h.next → h'.get i = h.get i
  env : ∀ i, i < h.next → ρ'.b i = ρ.b i ∧ ρ'.pre i = ρ.pre i ∧ ρ'.cap i = ρ.cap i ∧ ρ'.l i = ρ.l i
theorem Later.refl (h : Heap) (ρ : Env) : Later h ρ h ρ := ⟨Nat.le_refl _, fun _ _ => rfl, fun _ _ => ⟨rfl, rfl, rfl, rfl⟩⟩
theorem Later.trans {h1 h2 h3 : Heap} {ρ1 ρ2 ρ3 : Env} (a : Later h1 ρ1 h2 ρ2) (b : Later h2 ρ2 h3 ρ3) : Later h1 ρ1 h3 ρ3 :=
  ⟨Nat.le_trans a.next b.next, fun i hi => (b.get i (Nat.lt_of_lt_of_le hi a.next)).trans (a.get i hi), fun i hi => by
    obtain ⟨p1, p2, p3, p4⟩ := a.env i hi
    obtain ⟨q1, q2, q3, q4⟩ := b.env i (Nat.lt_of_lt_of_le hi a.next)
    exact ⟨q1.trans p1, q2.trans p2, q3.trans p3, q4.trans p4⟩⟩
noncomputable def ctx0 (h : Heap) : Ctx := ⟨0, fun i => i, fun i => i < h.next, h⟩
theorem Later.le {h h' : Heap} {ρ ρ' : Env} (a : Later h ρ h' ρ') : (ctx0 h).Le (ctx0 h') :=
  ⟨Nat.le_refl _, fun _ _ => rfl, fun c hc => Nat.lt_of_lt_of_le hc a.next, fun c hc => by
    show h'.val c = h.val c
    unfold Heap.val
    rw [a.get c hc]⟩
theorem Later.agree {h h' : Heap} {ρ ρ' : Env} (a : Later h ρ h' ρ') : Env.Agree (DD (fun i => i < h.next) ρ) ρ ρ' := fun i m hi => a.env i hi.1
def Env.more (ρ : Env) (n bn pre cap : Nat) (z : Option Addr) : Env := ⟨fun i => if i = n then bn else ρ.b i, fun i => if i = n then pre else ρ.pre i, fun i => if i = n then cap else ρ.cap i, fun i => if i = n then (bn, z) else ρ.l i⟩
theorem later_push (h : Heap) (ρ : Env) (v : V) (bn pre cap : Nat) (z : Option Addr) : Later h ρ (h.push (.ro v)) (ρ.more h.next bn pre cap z) := by
  refine ⟨Nat.le_succ _, fun i hi => ?_, fun i hi => ?_⟩
  · rw [Heap.get_push, if_neg (by omega)]
  · have e : i ≠ h.next := by omega
    simp only [Env.more, if_neg e, and_self]
theorem Start.push {W0 : World} {h : Heap} {ρ : Env} (s : Start W0 h ρ) (z : Option Addr) {v : V} {bn cap : Nat} {pre tail : List Value} {ty : TypeId} {fz : Nat × Nat} (ho : W0.heap[bn]? = some (.cells (pre ++ (cellsV ρ v ++ tail)).toArray ty fz)) (hv : InD (DD (fun i => i < h.next) ρ) v) (hc : v.size ≤ cap) : Start W0 (h.push (.ro v)) (ρ.more h.next bn pre.length cap z) := by
  have la := later_push h ρ v bn pre.length cap z
  have mono : ∀ i m, DD (fun i => i < h.next) ρ i m → DD (fun i => i < (h.push (.ro v)).next) (ρ.more h.next bn pre.length cap z) i m := fun i m hi => ⟨Nat.lt_of_lt_of_le hi.1 la.next, by rw [(la.env i hi.1).2.2.1]; exact hi.2⟩
  refine ⟨fun i hi => ?_, fun i b hb => ?_⟩
  · have hi : h.next + 1 ≤ i := hi
    rw [Heap.get_push, if_neg (by omega)]
    exact s.wf i (by omega)
  · rw [Heap.get_push] at hb
    split at hb
    · rename_i e
      cases hb
      subst e
      refine ⟨v, _, rfl, by simp only [Env.more, if_true]; exact ho, ⟨pre, tail, ty, fz, ?_, by simp [Env.more], by simp only [Env.more, if_true]; exact hc⟩, InD.mono mono hv⟩
      rw [cellsV_agree la.agree hv]
    · obtain ⟨v', o, rfl, h1, h2, h3⟩ := s.ro i b hb
      have hi : i < h.next := Nat.lt_of_not_le fun q => by rw [s.wf i q] at hb; cases hb
      exact ⟨v', o, rfl, by rw [(la.env i hi).1]; exact h1, h2.agree la.agree (m := 0) ⟨hi, Nat.zero_le _⟩ h3, InB.mono mono h3⟩
theorem Start.ghost {W0 : World} {h : Heap} {ρ : Env} (s : Start W0 h ρ) {bn : Nat} {cs : Array Value} {ty : TypeId} {fz : Nat × Nat} (ho : W0.heap[bn]? = some (.cells cs ty fz)) (a : Addr) : Start W0 (h.push (.ro (.agg 0 []))) (ρ.more h.next bn 0 0 (some a)) := by
  refine Start.push s (some a) (v := .agg 0 []) (pre := []) (tail := cs.toList) (ty := ty) (fz := fz) ?_ trivial (Nat.le_refl _)
  rw [ho]
  simp [cellsV, fit]
structure Opnd (W0 : World) (h : Heap) (ρ : Env) (cs : List Value) (s : List V) (h' : Heap) (ρ' : Env) : Prop where
  la : Later h ρ h' ρ'
  st : Start W0 h' ρ'
  eq : cs = s.map (conc ρ')
  leaf : ∀ v ∈ s, v.leaf = true
  ind : InDL (DD (fun i => i < h'.next) ρ') s
theorem Later.dd {h h' : Heap} {ρ ρ' : Env} (a : Later h ρ h' ρ') : ∀ i m, DD (fun i => i < h.next) ρ i m → DD (fun i => i < h'.next) ρ' i m := fun i m hi => ⟨Nat.lt_of_lt_of_le hi.1 a.next, by rw [(a.env i hi.1).2.2.1]; exact hi.2⟩
theorem Later.map {h h' : Heap} {ρ ρ' : Env} (a : Later h ρ h' ρ') {s : List V} (hs : InDL (DD (fun i => i < h.next) ρ) s) : s.map (conc ρ') = s.map (conc ρ) := by
  rw [← concL_eq, ← concL_eq, concL_agree a.agree hs]
theorem InDL_app {D : Nat → Nat → Prop} {a b : List V} (ha : InDL D a) (hb : InDL D b) : InDL D (a ++ b) := InDL_iff.2 fun v hv => by
  rcases List.mem_append.1 hv with h | h
  · exact InDL_iff.1 ha v h
  · exact InDL_iff.1 hb v h
theorem concC_leaf {ρ : Env} : ∀ {s : List V}, (∀ v ∈ s, v.leaf = true) → concC ρ s = s.map (conc ρ)
  | [], _ => rfl
  | v :: s, h => by
    rw [concC, cellsV_leaf (h v (List.mem_cons_self ..)), concC_leaf (s := s) fun x hx => h x (List.mem_cons_of_mem _ hx)]; rfl
theorem cells_leafs {ρ : Env} {s : List V} (h : ∀ v ∈ s, v.leaf = true) : cellsV ρ (.agg s.length s) = s.map (conc ρ) := by
  simp only [cellsV, concC_leaf h]
  exact fit_self (by simp)
theorem flat_leafs {s : List V} (h : ∀ v ∈ s, v.leaf = true) : flatV (.agg s.length s) = s := flat_agg (fun x hx => V.leaf_agg (h x hx)) rfl
theorem HCL.len {W0 : World} : ∀ {l : List W} {cs : List Value}, HCL W0 l cs → cs.length = sumW l
  | [], cs, h => by simp only [HCL] at h; subst h; rfl
  | x :: l, cs, h => by
    simp only [HCL] at h
    obtain ⟨a, b, rfl, h1, h2⟩ := h
    rw [List.length_append, HC.len h1, HCL.len h2]; rfl
mutual
theorem open_w {W0 : World} : ∀ (w : W) {cs : List Value} {h : Heap} {ρ : Env}, HC W0 w cs → Start W0 h ρ → ∃ h' ρ' s, Opnd W0 h ρ cs s h' ρ' ∧ RS (ctx0 h') w s
  | .bool b, cs, h, ρ, hc, st => by
    simp only [HC] at hc; subst hc
    exact ⟨h, ρ, [.bool b], ⟨Later.refl _ _, st, by simp [conc], by simp [V.leaf], ⟨trivial, trivial⟩⟩, by simp [RS]⟩
  | .int k n, cs, h, ρ, hc, st => by
    simp only [HC] at hc; subst hc
    exact ⟨h, ρ, [.int k n], ⟨Later.refl _ _, st, by simp [conc], by simp [V.leaf], ⟨trivial, trivial⟩⟩, by simp [RS]⟩
  | .str x, cs, h, ρ, hc, st => by
    simp only [HC] at hc; subst hc
    exact ⟨h, ρ, [.str x], ⟨Later.refl _ _, st, by simp [conc], by simp [V.leaf], ⟨trivial, trivial⟩⟩, by simp [RS]⟩
  | .agg n l, cs, h, ρ, hc, st => by
    simp only [HC] at hc
    obtain ⟨h', ρ', s, o, r⟩ := open_l l hc.2 st
    exact ⟨h', ρ', s, o, by simp only [RS]; exact ⟨by rw [← hc.1, o.eq]; simp, r⟩⟩
  | .arr n e l, cs, h, ρ, hc, st => by
    simp only [HC] at hc
    obtain ⟨h', ρ', s, o, r⟩ := open_l l hc.2.2.2 st
    exact ⟨h', ρ', s, o, by simp only [RS]; exact ⟨by rw [← hc.1, o.eq]; simp, hc.2.1, r⟩⟩
  | .fz l e f, cs, h, ρ, hc, st => by
    simp only [HC] at hc
    obtain ⟨rfl, ⟨rfl, rfl⟩ | ⟨rfl, he, a, bn, cs', ty, fz, rfl, ho⟩ | ⟨a, cap, rfl, hle, hsp, he, hsz, pre, mid, tail, ty, fz, ho, hpre, hl⟩⟩ := hc
    · exact ⟨h, ρ, [.nils], ⟨Later.refl _ _, st, by simp [conc], by simp [V.leaf], ⟨trivial, trivial⟩⟩, by simp [RS]⟩
    · have la := later_push h ρ (.agg 0 []) bn 0 0 (some a)
      refine ⟨_, _, [.sl h.next 1 0 0 e (some 0)], ⟨la, st.ghost ho a, ?_, by simp [V.leaf], ⟨⟨he, Nat.le_refl _, Nat.lt_succ_self _, by simp⟩, trivial⟩⟩, ?_⟩
      · simp [conc, slConc, slCap, zAddr, Env.more]
      · simp only [RS]
        refine .inr ⟨h.next, 1, 0, some 0, .agg 0 [], rfl, fun h => (by cases h), Nat.lt_succ_self _, ?_, rfl, by simp [V.size], by simp, ?_⟩
        · simp [ctx0, Heap.val, Heap.get_push]
        · simp [RSL]
    · obtain ⟨h1, ρ1, s, o, r⟩ := open_l l hl st
      have hlen : s.length = l.length * e := by
        have h1 := HCL.len hl
        rw [sumW_eq hsz, o.eq, List.length_map] at h1
        exact h1
      have la := later_push h1 ρ1 (.agg s.length s) a.block a.off (cap * e) none
      have hcl : l.length * e ≤ cap * e := Nat.mul_le_mul_right e hle
      have stp : Start W0 (h1.push (.ro (.agg s.length s))) (ρ1.more h1.next a.block a.off (cap * e) none) := by
        rw [← hpre]
        refine o.st.push none (tail := tail) (ty := ty) (fz := fz) ?_ o.ind (by show s.length ≤ cap * e; omega)
        rw [cells_leafs o.leaf, ← o.eq]; exact ho
      refine ⟨_, _, [.sl h1.next 0 0 l.length e (some cap)], ⟨o.la.trans la, stp, ?_, by simp [V.leaf], ⟨⟨he, hle, Nat.lt_succ_self _, by simp [Env.more]⟩, trivial⟩⟩, ?_⟩
      · obtain ⟨ab, ao, asp⟩ := a
        simp only at hsp
        subst hsp
        by_cases hc0 : cap = 0
        · subst hc0
          simp [conc, slConc, slCap, Env.more]
        · simp [conc, slConc, slCap, Env.more, hc0]
      · simp only [RS]
        refine .inr ⟨h1.next, 0, 0, some cap, .agg s.length s, rfl, fun h => (by cases h), Nat.lt_succ_self _, ?_, rfl, by simp only [V.size]; omega, hsz, ?_⟩
        · simp [ctx0, Heap.val, Heap.get_push]
        · rw [List.drop_zero, flat_leafs o.leaf, List.take_of_length_le (by omega)]
          exact RSL.mono la.le r
  | .undef, cs, h, ρ, hc, st => by simp [HC] at hc
  | .nilp, cs, h, ρ, hc, st => by simp [HC] at hc
  | .ptr _ _, cs, h, ρ, hc, st => by simp [HC] at hc
  | .nils, cs, h, ρ, hc, st => by simp [HC] at hc
  | .sl _ _ _ _ _ _, cs, h, ρ, hc, st => by simp [HC] at hc
  | .fel _, cs, h, ρ, hc, st => by simp [HC] at hc
  | .nilm, cs, h, ρ, hc, st => by simp [HC] at hc
  | .fn _ _ _, cs, h, ρ, hc, st => by simp [HC] at hc
  | .yield _, cs, h, ρ, hc, st => by simp [HC] at hc
  | .nilf, cs, h, ρ, hc, st => by simp [HC] at hc
  | .iface _ _, cs, h, ρ, hc, st => by simp [HC] at hc
  | .nili, cs, h, ρ, hc, st => by simp [HC] at hc
  | .tup _, cs, h, ρ, hc, st => by simp [HC] at hc
theorem open_l {W0 : World} : ∀ (l : List W) {cs : List Value} {h : Heap} {ρ : Env}, HCL W0 l cs → Start W0 h ρ → ∃ h' ρ' s, Opnd W0 h ρ cs s h' ρ' ∧ RSL (ctx0 h') l s
  | [], cs, h, ρ, hc, st => by
    simp only [HCL] at hc; subst hc
    exact ⟨h, ρ, [], ⟨Later.refl _ _, st, rfl, by simp, trivial⟩, by simp [RSL]⟩
  | x :: l, cs, h, ρ, hc, st => by
    simp only [HCL] at hc
    obtain ⟨a, b, rfl, h1, h2⟩ := hc
    obtain ⟨h1', ρ1, s1, o1, r1⟩ := open_w x h1 st
    obtain ⟨h2', ρ2, s2, o2, r2⟩ := open_l l h2 o1.st
    refine ⟨h2', ρ2, s1 ++ s2, ⟨o1.la.trans o2.la, o2.st, ?_, ?_, InDL_app (o1.ind.mono o2.la.dd) o2.ind⟩, RSL_cons (RS.mono o2.la.le r1) r2⟩
    · rw [List.map_append, o2.la.map o1.ind, ← o1.eq, ← o2.eq]
    · intro v hv
      rcases List.mem_append.1 hv with h | h
      · exact o1.leaf v h
      · exact o2.leaf v h
end
def HV (W0 : World) (w : W) (v : Value) : Prop := match w.isAgg with
  | true => ∃ cs, v = .agg cs.toArray ∧ HC W0 w cs
  | false => HC W0 w [v]
def HVL (W0 : World) : List W → List Value → Prop
  | [], vs => vs = []
  | w :: ws, vs => ∃ v vs', vs = v :: vs' ∧ HV W0 w v ∧ HVL W0 ws vs'
theorem open_v {W0 : World} {w : W} {v : Value} {h : Heap} {ρ : Env} (hv : HV W0 w v) (st : Start W0 h ρ) : ∃ h' ρ' x, Later h ρ h' ρ' ∧ Start W0 h' ρ' ∧ conc ρ' x = v ∧ InD (DD (fun i => i < h'.next) ρ') x ∧ RV (ctx0 h') w x := by
  unfold HV at hv
  split at hv
  · rename_i ha
    obtain ⟨cs, rfl, hc⟩ := hv
    obtain ⟨h', ρ', s, o, r⟩ := open_w w hc st
    refine ⟨h', ρ', .agg s.length s, o.la, o.st, ?_, o.ind, ha, by rw [flat_leafs o.leaf]; exact r⟩
    rw [conc_agg rfl, cells_leafs o.leaf, ← o.eq]
  · rename_i ha
    obtain ⟨h', ρ', s, o, r⟩ := open_w w hv st
    have hl := congrArg List.length o.eq
    simp only [List.length_cons, List.length_nil, List.length_map] at hl
    match s, hl, o, r with
    | [x], _, o, r =>
      have e := o.eq
      simp only [List.map_cons, List.map_nil, List.cons.injEq, and_true] at e
      exact ⟨h', ρ', x, o.la, o.st, e.symm, o.ind.1, RV.of_one r ha (V.leaf_agg (o.leaf x (by simp)))⟩
theorem open_vs {W0 : World} : ∀ {ws : List W} {vs : List Value} {h : Heap} {ρ : Env}, HVL W0 ws vs → Start W0 h ρ → ∃ h' ρ' xs, Later h ρ h' ρ' ∧ Start W0 h' ρ' ∧ concL ρ' xs = vs ∧ InDL (DD (fun i => i < h'.next) ρ') xs ∧ RVL (ctx0 h') ws xs
  | [], vs, h, ρ, hv, st => by
    simp only [HVL] at hv; subst hv
    exact ⟨h, ρ, [], Later.refl _ _, st, rfl, trivial, by simp [RVL]⟩
  | w :: ws, vs, h, ρ, hv, st => by
    simp only [HVL] at hv
    obtain ⟨v, vs', rfl, h1, h2⟩ := hv
    obtain ⟨ha, ρa, x, la, sa, ea, ia, ra⟩ := open_v h1 st
    obtain ⟨hb, ρb, xs, lb, sb, eb, ib, rb⟩ := open_vs h2 sa
    refine ⟨hb, ρb, x :: xs, la.trans lb, sb, ?_, ⟨ia.mono lb.dd, ib⟩, ?_⟩
    · rw [concL, eb, conc_agree lb.agree ia, ea]
    · simp only [RVL]
      exact ⟨x, xs, rfl, RV.mono lb.le ra, rb⟩
end Go.Proofs.Ytgeelfdgnehdnaa

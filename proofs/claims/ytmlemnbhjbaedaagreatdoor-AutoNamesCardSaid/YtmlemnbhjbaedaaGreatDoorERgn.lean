/-
  The plain machine's run of a region that draws its order: each turn, and the whole. Nothing here speaks of a program.
-/
import Derived.Test.YtmlemnbhjbaedaaGreatDoorEReg
namespace Go.Proofs.YtmlemnbhjbaedaaGreatDoor
open Go.RowKit
set_option linter.unusedSimpArgs false
set_option linter.unusedVariables false

section
variable {P : Program} {C : Cfg} {S : Self} {s0 : World} {U N : Nat} {X : List Deferred} {ops : Array Oper} {frs : Nat → Tr V} {hs : Nat → Heap} {vs : Nat → V} {xs : Nat → Option Ev} {D0 : Nat → Prop} {ρ0 : Env} {w0 : World} {listed : Array Bool} {a : Act} {w : World} {D : Nat → Prop} {ρ : Env} {H : Heap}
/-- a turn on the memory as it lies -/
theorem FInv.here (c : FCtx P C S U N ops frs hs vs xs) (inv : FInv C s0 U N X ops frs hs vs xs D0 ρ0 w0 listed a w D ρ H) {j : Nat} {o : Oper} (hj : ops[j]? = some o) (hjf : listed[j]? = some false)
    (hed : ∀ e ∈ o.after, Region.binds .any e = true → listed[e.on]? = some true) {fc : Tr V} (g : FrE C D ρ fc a) {H1 : Heap} (ho : opV S C fc H o = some (vs j, H1)) (hn : H1.next = H.next) (hw : (hs ops.size).wmin ≤ H1.wmin)
    (hnn : (hs (j + 1)).next = (hs j).next) (hkeep : ∀ i, D i → ¬ Tch (xs j) (hs j).next (hs (j + 1)).next i → H1.get i = H.get i) (hnew : ∀ i, D i → Tch (xs j) (hs j).next (hs (j + 1)).next i → H1.get i = (hs (j + 1)).get i)
    {r : Option Nat} {K : Act → World → Prop} {Q : Exit → Act → World → Prop} (hK : ∀ w' D' ρ' H', FInv C s0 U N X ops frs hs vs xs D0 ρ0 w0 (listed.setIfInBounds j true) (a.put o.dst (conc ρ' (vs j))) w' D' ρ' H' → K (a.put o.dst (conc ρ' (vs j))) w') : o.wpIn (FF r) 0 P a w K Q := by
  have hjs := (Array.getElem?_eq_some_iff.1 hj).1
  obtain ⟨hnd, _⟩ := flowB_at c.hB hj
  have hU : H1.next ≤ U := by rw [hn, inv.next]; exact c.hU
  refine opV_sound c.hC c.hS hnd ho hU g inv.rel fun D' ρ' w' rel1 nxt1 in1 => ?_
  have hD' : ∀ i, D' i → D i := fun i hi => by
    rcases nxt1.new i hi with h | ⟨h, h'⟩
    · exact h
    · rw [hn] at h'; omega
  have m0 := (c.monoLe (Nat.zero_le ops.size) (Nat.le_refl _)).nxt
  refine hK w' D' ρ' { H1 with next := (hs ops.size).next, wmin := (hs ops.size).wmin } (inv.upd c hj hjf hed (fun i hi => .inl (hD' i hi)) rfl rfl (fun i hi => hkeep i (hD' i hi)) (fun i hi => hnew i (hD' i hi)) ?_ ?_ (nxt1.agree inv.rel.lt hU) (nxt1.dd inv.rel.lt hU) in1)
  · exact rel1.on (fun i hi => by
      have h1 := rel1.lt i hi
      have h2 := inv.next
      show i < (hs ops.size).next ∨ U ≤ i
      omega) (fun i hi => rel1.wf i (by rw [hn, inv.next]; exact hi)) fun i b _ hb => hb
  · exact Nxt.ext inv.lt0 inv.nxt nxt1 c.hU (by rw [inv.next]; exact m0) (by rw [hn, inv.next]; exact Nat.le_refl _) hw (fun i _ h => by rw [hn] at h; omega)
/-- a turn on the memory as it lay in the text's order, at nothing that lay there -/
theorem FInv.there (c : FCtx P C S U N ops frs hs vs xs) (inv : FInv C s0 U N X ops frs hs vs xs D0 ρ0 w0 listed a w D ρ H) {j : Nat} {o : Oper} (hj : ops[j]? = some o) (hjf : listed[j]? = some false)
    (hed : ∀ e ∈ o.after, Region.binds .any e = true → listed[e.on]? = some true) {fc : Tr V} (g : FrE C D ρ fc a) {h1 : Heap} (ho : opV S C fc { hs j with wmin := (hs j).next } o = some (vs j, h1)) (hj1 : hs (j + 1) = { h1 with wmin := minN (hs j).wmin h1.wmin })
    {x : Ev} (hx : xs j = some x) (hr : ∀ i, Reads x i) (hg : ((x = .dirty ∨ ∃ b, x = .upd b) ∧ ∀ i, ¬ Tch (xs j) (hs j).next h1.next i → i < (hs j).next → h1.get i = (hs j).get i) ∨ (x = .gen ∧ (hs j).next ≤ h1.wmin))
    {r : Option Nat} {K : Act → World → Prop} {Q : Exit → Act → World → Prop} (hK : ∀ w' D' ρ' H', FInv C s0 U N X ops frs hs vs xs D0 ρ0 w0 (listed.setIfInBounds j true) (a.put o.dst (conc ρ' (vs j))) w' D' ρ' H' → K (a.put o.dst (conc ρ' (vs j))) w') : o.wpIn (FF r) 0 P a w K Q := by
  have hjs := (Array.getElem?_eq_some_iff.1 hj).1
  obtain ⟨hnd, _⟩ := flowB_at c.hB hj
  have hm := opV_mono c.hS ho
  have hjn : (hs (j + 1)).next = h1.next := by rw [hj1]
  have hjg : ∀ i, (hs (j + 1)).get i = h1.get i := fun i => by rw [hj1]; rfl
  have hle := (c.monoLe (show j + 1 ≤ ops.size by omega) (Nat.le_refl _)).nxt
  have m0 := (c.monoLe (Nat.zero_le ops.size) (Nat.le_refl _)).nxt
  have m0j := (c.monoLe (Nat.zero_le j) (by omega)).nxt
  have hmj : (hs j).next ≤ h1.next := hm.nxt
  have hU := c.hU
  have hwm : (hs ops.size).wmin ≤ h1.wmin := by
    have q1 := (c.monoLe (show j + 1 ≤ ops.size by omega) (Nat.le_refl _)).wmin
    have q2 := (minN_le (hs j).wmin h1.wmin).2
    rw [hj1] at q1
    exact Nat.le_trans q1 q2
  -- the blocks that are told of lie ahead of its own, or behind
  have hD : ∀ i, D i → i < (hs j).next ∨ h1.next ≤ i := fun i hi => by
    rcases inv.char i hi with h | ⟨k, hk, g1, g2⟩
    · have := inv.lt0 i h; omega
    · have hks : k < ops.size := by rw [← inv.size]; exact (Array.getElem?_eq_some_iff.1 hk).1
      rcases Nat.lt_trichotomy k j with h | h | h
      · have := (c.monoLe (show k + 1 ≤ j by omega) (by omega)).nxt; omega
      · rw [h, hjf] at hk; cases hk
      · have := (c.monoLe (show j + 1 ≤ k by omega) (by omega)).nxt; omega
  have rel1 : Rel s0 h1.next D ρ { hs j with wmin := (hs j).next } w := inv.rel.on hD (c.wf (by omega)) fun i b hi hb => by
    have hb : (hs j).get i = some b := hb
    have hlt : i < (hs j).next := by
      rcases Nat.lt_or_ge i (hs j).next with h | h
      · exact h
      · rw [c.wf (by omega) i h] at hb; cases hb
    rw [inv.now c hj hjf hed hx (hr i) hi hlt]; exact hb
  refine opV_sound c.hC c.hS hnd ho (Nat.le_refl _) g rel1 fun D' ρ' w' rel2 nxt2 in2 => ?_
  have hnew : ∀ i, D' i → D i ∨ ((hs j).next ≤ i ∧ i < h1.next) := nxt2.new
  have ag := nxt2.agree rel1.lt (Nat.le_refl _)
  have dd := nxt2.dd rel1.lt (Nat.le_refl _)
  have nx := Nxt.ext inv.lt0 inv.nxt nxt2 c.hU (by exact m0j) (by omega) hwm (fun i hi h => by
    have := hD i hi
    have h : (hs j).next ≤ i ∧ i < h1.next := h
    omega)
  have ltU : ∀ i, D' i → i < (hs ops.size).next ∨ U ≤ i := fun i hi => by
    rcases hnew i hi with h | h
    · have := inv.rel.lt i h; rw [inv.next] at this; exact this
    · omega
  rcases hg with ⟨hxx, hkp⟩ | ⟨rfl, hwn⟩
  · -- it turns what it likes: nothing behind it has had a turn
    have hD2 : ∀ i, D i → i < (hs j).next ∨ (hs ops.size).next ≤ i := fun i hi => by
      rcases inv.char i hi with h | ⟨k, hk, g1, g2⟩
      · have := inv.lt0 i h; omega
      · have hks : k < ops.size := by rw [← inv.size]; exact (Array.getElem?_eq_some_iff.1 hk).1
        rcases Nat.lt_trichotomy k j with h | h | h
        · have := (c.monoLe (show k + 1 ≤ j by omega) (by omega)).nxt; omega
        · rw [h, hjf] at hk; cases hk
        · obtain ⟨_, y, ry, hnl, _⟩ := c.tch_ev hks (.inl ⟨g1, g2⟩)
          have hcl : x.clash y = true := by
            rcases hxx with rfl | ⟨b, rfl⟩
            · cases y <;> rfl
            · cases y <;> first | rfl | exact absurd rfl (hnl _)
          have := reach_listed inv.closed _ k j (c.cl k j y x hks h ry hx hcl) fun o' e ho' he hb => inv.closed k o' e ho' hk he hb
          rw [hjf] at this; cases this
    refine hK w' D' ρ' { h1 with next := (hs ops.size).next, wmin := (hs ops.size).wmin } (inv.upd c hj hjf hed (fun i hi => by rw [hjn]; exact hnew i hi) rfl rfl ?_ (fun i _ _ => (hjg i).symm) ?_ nx ag dd in2)
    · intro i hi ht
      have hi' : D i := by
        rcases hnew i hi with h | h
        · exact h
        · exact absurd (.inl (by rw [hjn]; exact h)) ht
      rcases hD2 i hi' with h | h
      · have e1 := hkp i (by rw [← hjn]; exact ht) h
        have e2 := inv.now c hj hjf hed hx (hr i) hi' h
        show h1.get i = H.get i
        rw [e1, e2]
      · have e1 : h1.get i = none := rel2.wf i (by omega)
        have e2 : H.get i = none := inv.rel.wf i (by rw [inv.next]; exact h)
        rw [e2]; exact e1
    · exact rel2.on ltU (fun i hi => rel2.wf i (by have hi : (hs ops.size).next ≤ i := hi; omega)) fun i b _ hb => hb
  · -- it turns nothing: what it made comes in between
    obtain ⟨tr, htr⟩ := Tr.of (fun i => if (hs j).next ≤ i ∧ i < h1.next then h1.get i else H.get i) (hs ops.size).next
    have hget : ∀ i, (Heap.mk (hs ops.size).next (hs ops.size).wmin tr).get i = if i < (hs ops.size).next then (if (hs j).next ≤ i ∧ i < h1.next then h1.get i else H.get i) else none := htr
    have hframe : ∀ b, b < w.heap.size → w'.heap[b]? = w.heap[b]? := fun b hb => nxt2.frame b hb fun i _ q1 q2 => by
      have q2 : i < (hs j).next := q2
      omega
    have hfresh : ∀ i, D' i → (hs j).next ≤ i → i < h1.next → w.heap.size ≤ ρ'.b i := fun i hi q1 q2 => by
      rcases nxt2.fresh i hi q1 q2 with h | ⟨k, _, k2, k3, _⟩
      · exact h
      · have k3 : k < (hs j).next := k3
        omega
    have get : ∀ i b, D' i → (Heap.mk (hs ops.size).next (hs ops.size).wmin tr).get i = some b → ((hs j).next ≤ i ∧ i < h1.next ∧ h1.get i = some b) ∨ (D i ∧ H.get i = some b ∧ ρ'.b i = ρ.b i) := fun i b hi hb => by
      rw [hget] at hb
      split at hb
      · split at hb
        · rename_i h; exact .inl ⟨h.1, h.2, hb⟩
        · rename_i h
          have hi' : D i := by
            rcases hnew i hi with h' | h'
            · exact h'
            · exact absurd h' h
          exact .inr ⟨hi', hb, (ag i 0 ⟨hi', Nat.zero_le _⟩).1⟩
      · cases hb
    have hsz := nxt2.size
    refine hK w' D' ρ' ⟨(hs ops.size).next, (hs ops.size).wmin, tr⟩ (inv.upd c hj hjf hed (fun i hi => by rw [hjn]; exact hnew i hi) rfl rfl ?_ ?_ ?_ nx ag dd in2)
    · intro i hi ht
      rw [hget]
      have hni : ¬ ((hs j).next ≤ i ∧ i < h1.next) := fun h => ht (.inl (by rw [hjn]; exact h))
      rw [if_neg hni]
      by_cases hlt : i < (hs ops.size).next
      · rw [if_pos hlt]
      · rw [if_neg hlt, inv.rel.wf i (by rw [inv.next]; omega)]
    · intro i hi ht
      rw [hjg, hget]
      have hr : (hs j).next ≤ i ∧ i < h1.next := by
        rcases ht with h | h | ⟨h | h, _⟩
        · rw [hjn] at h; exact h
        · rw [hx] at h; cases h
        · rw [hx] at h; cases h
        · rw [hx] at h; cases h
      rw [if_pos (by omega), if_pos hr]
    · refine ⟨ltU, fun i hi => ?_, fun i b hi hb => ?_, fun i b hi hb => ?_, fun i k b d hi hk hb hd hob hod hne => ?_, fun i b hi hb hob => ?_, fun i k b d hi hk hb hd hob hod => ?_, rel2.base⟩
      · have hi : (hs ops.size).next ≤ i := hi
        rw [hget, if_neg (by omega)]
      · rcases get i b hi hb with ⟨q1, q2, q3⟩ | ⟨q1, q2, q3⟩
        · exact rel2.has i b hi q3
        · obtain ⟨ob, g1, g2⟩ := inv.rel.has i b q1 q2
          refine ⟨ob, ?_, KnB.agree ag (m := 0) ⟨q1, Nat.zero_le _⟩ (inv.rel.clo i b q1 q2) g2⟩
          rw [q3, hframe _ (Array.getElem?_eq_some_iff.1 g1).1]; exact g1
      · rcases get i b hi hb with ⟨q1, q2, q3⟩ | ⟨q1, q2, q3⟩
        · exact rel2.clo i b hi q3
        · exact (inv.rel.clo i b q1 q2).mono dd
      · rcases get i b hi hb with ⟨q1, q2, q3⟩ | ⟨q1, q2, q3⟩ <;> rcases get k d hk hd with ⟨p1, p2, p3⟩ | ⟨p1, p2, p3⟩
        · exact rel2.inj i k b d hi hk q3 p3 hob hod hne
        · rw [p3]
          obtain ⟨od, g1, _⟩ := inv.rel.has k d p1 p2
          have := (Array.getElem?_eq_some_iff.1 g1).1
          have := hfresh i hi q1 q2
          omega
        · rw [q3]
          obtain ⟨od, g1, _⟩ := inv.rel.has i b q1 q2
          have := (Array.getElem?_eq_some_iff.1 g1).1
          have := hfresh k hk p1 p2
          omega
        · rw [q3, p3]; exact inv.rel.inj i k b d q1 p1 q2 p2 hob hod hne
      · rcases get i b hi hb with ⟨q1, q2, q3⟩ | ⟨q1, q2, q3⟩
        · exact rel2.own i b hi q3 hob
        · rw [q3]; exact inv.rel.own i b q1 q2 hob
      · rcases get i b hi hb with ⟨q1, q2, q3⟩ | ⟨q1, q2, q3⟩ <;> rcases get k d hk hd with ⟨p1, p2, p3⟩ | ⟨p1, p2, p3⟩
        · exact rel2.old i k b d hi hk q3 p3 hob hod
        · rw [p3]
          obtain ⟨od, g1, _⟩ := inv.rel.has k d p1 p2
          have := (Array.getElem?_eq_some_iff.1 g1).1
          have := hfresh i hi q1 q2
          omega
        · rw [q3]
          obtain ⟨od, g1, _⟩ := inv.rel.has i b q1 q2
          have := (Array.getElem?_eq_some_iff.1 g1).1
          have := hfresh k hk p1 p2
          omega
        · rw [q3, p3]; exact inv.rel.old i k b d q1 p1 q2 p2 hob hod
/-- a turn -/
theorem FInv.go (c : FCtx P C S U N ops frs hs vs xs) (inv : FInv C s0 U N X ops frs hs vs xs D0 ρ0 w0 listed a w D ρ H) {j : Nat} {o : Oper} (hj : ops[j]? = some o) (hjf : listed[j]? = some false)
    (hed : ∀ e ∈ o.after, Region.binds .any e = true → listed[e.on]? = some true) {r : Option Nat} {K : Act → World → Prop} {Q : Exit → Act → World → Prop} (hK : ∀ u w' D' ρ' H', FInv C s0 U N X ops frs hs vs xs D0 ρ0 w0 (listed.setIfInBounds j true) (a.put o.dst u) w' D' ρ' H' → K (a.put o.dst u) w') :
    (Region.wanted o (yielded ops a.tmps) = true ∧ o.wpIn (FF r) 0 P a w K Q) ∨ (Region.wanted o (yielded ops a.tmps) = false ∧ K (a.put o.dst undef) w) := by
  have hjs := (Array.getElem?_eq_some_iff.1 hj).1
  obtain ⟨hst, _⟩ := c.st j o hj
  obtain ⟨fc, hfc, g⟩ := inv.fr c hj hjf hed
  have hev := cut_ev (C := C) (fr := frs j) hfc
  rcases hst with ⟨hw, hv, hh, hx⟩ | ⟨hw, hst⟩
  · -- left out
    right
    rw [cut_want hfc] at hw
    refine ⟨wantV_spec g hw, ?_⟩
    have hv' : conc ρ (vs j) = undef := by rw [hv]; rfl
    refine hK undef w D ρ H ?_
    have hnt : ∀ i, ¬ Tch (xs j) (hs j).next (hs (j + 1)).next i := fun i h => by
      rw [hx, hh] at h
      rcases h with h | h | h
      · omega
      · cases h
      · rcases h.1 with h | h <;> cases h
    have := inv.upd c hj hjf hed (D' := D) (ρ' := ρ) (H' := H) (w' := w) (fun i hi => .inl hi) inv.next inv.wmin (fun i _ _ => rfl) (fun i _ h => absurd h (hnt i)) inv.rel inv.nxt (fun _ _ _ => ⟨rfl, rfl, rfl, rfl⟩) (fun _ _ h => h) (by rw [hv]; trivial)
    rwa [hv'] at this
  · left
    have hw' := hw
    rw [cut_want hfc] at hw'
    refine ⟨wantV_spec g hw', ?_⟩
    have hK' : ∀ w' D' ρ' H', FInv C s0 U N X ops frs hs vs xs D0 ρ0 w0 (listed.setIfInBounds j true) (a.put o.dst (conc ρ' (vs j))) w' D' ρ' H' → K (a.put o.dst (conc ρ' (vs j))) w' := fun w' D' ρ' H' => hK _ w' D' ρ' H'
    rcases stepF_cases hst with ⟨hp, hh, hx⟩ | ⟨h1, hp, ho, hh, hx⟩
    · have hnt : ∀ i, ¬ Tch (xs j) (hs j).next (hs (j + 1)).next i := fun i h => by
        rw [hx, hh] at h
        rcases h with h | h | h
        · omega
        · cases h
        · rcases h.1 with h | h <;> cases h
      rw [pureV_congr o.op hev] at hp
      refine inv.here c hj hjf hed g (H1 := H) (by unfold opV; simp only [hp]) rfl (Nat.le_of_eq inv.wmin.symm) (by rw [hh]) (fun _ _ _ => rfl) (fun i _ h => absurd h (hnt i)) hK'
    · have hnx : (hs (j + 1)).next = h1.next := by rw [hh]
      have hp2 := hp
      have ho2 := ho
      rw [opV_congr o hev] at ho
      rw [pureV_congr o.op hev] at hp
      have hb : ∀ {b : Nat} x off B, x ∈ o.op.operands → evV C (frs j) x = some (.ptr b off) → (Heap.mk (hs j).next (hs j).next (hs j).tr).get b = some B → D b ∧ b < (hs j).next := fun {b} x off B h1 h2 h3 => by
        rw [hev x h1] at h2
        have h3 : (hs j).get b = some B := h3
        refine ⟨(g.ev h2).2.1, ?_⟩
        rcases Nat.lt_or_ge b (hs j).next with h | h
        · exact h
        · rw [c.wf (by omega) b h] at h3; cases h3
      cases he : evOf C (frs j) (hs j) h1 o.op with
      | load b =>
        obtain ⟨⟨e1, e2⟩, ⟨B, hB⟩, x, off, hxo, hxb⟩ := ev_load hp2 ho2 he
        obtain ⟨hDb, hlt⟩ := hb x off B hxo hxb hB
        have hxl : xs j = some (.load b) := by rw [hx, he]
        have hnn : (hs (j + 1)).next = (hs j).next := by rw [hnx, e1]
        have hnt : ∀ i, ¬ Tch (xs j) (hs j).next (hs (j + 1)).next i := fun i h => by
          rw [hxl, hnn] at h
          rcases h with h | h | h
          · omega
          · cases h
          · rcases h.1 with h | h <;> cases h
        have hH : H.get b = (hs j).get b := inv.now c hj hjf hed hxl rfl hDb hlt
        have ho3 := e2 H (by rw [hH]; rfl)
        rw [opV_congr o hev] at ho3
        exact inv.here c hj hjf hed g ho3 rfl (Nat.le_of_eq inv.wmin.symm) hnn (fun _ _ _ => rfl) (fun i _ h => absurd h (hnt i)) hK'
      | store b =>
        obtain ⟨⟨B, B', hB, e1, e2⟩, x, off, hxo, hxb⟩ := ev_store hp2 ho2 he
        obtain ⟨hDb, hlt⟩ := hb x off B hxo hxb hB
        have hxl : xs j = some (.store b) := by rw [hx, he]
        have hnn : (hs (j + 1)).next = (hs j).next := by rw [hnx, e1]; rfl
        have hH : H.get b = (hs j).get b := inv.now c hj hjf hed hxl rfl hDb hlt
        have hget : ∀ i, (hs (j + 1)).get i = if i = b then some B' else (hs j).get i := fun i => by
          rw [hh, e1]; exact Heap.get_put _ _ _ _
        have hwb : (hs ops.size).wmin ≤ b := by
          have q1 := (c.monoLe (show j + 1 ≤ ops.size by omega) (Nat.le_refl _)).wmin
          have q2 := (minN_le (hs j).wmin h1.wmin).2
          have q3 := (wmin_le (hs j).next b).2
          rw [hh] at q1
          have q4 : h1.wmin = wmn (hs j).next b := by rw [e1]; rfl
          have q1 : (hs ops.size).wmin ≤ minN (hs j).wmin h1.wmin := q1
          omega
        have ho3 := e2 H (by rw [hH]; rfl)
        rw [opV_congr o hev] at ho3
        refine inv.here c hj hjf hed g ho3 rfl ?_ hnn (fun i _ hi => ?_) (fun i _ hi => ?_) hK'
        · show (hs ops.size).wmin ≤ wmn H.wmin b
          unfold wmn
          split
          · exact Nat.le_of_eq inv.wmin.symm
          · exact hwb
        · rw [Heap.get_put, if_neg]
          rintro rfl
          exact hi (.inr (.inl hxl))
        · have : i = b := by
            rw [hxl, hnn] at hi
            rcases hi with h | h | h
            · omega
            · cases h; rfl
            · rcases h.1 with h | h <;> cases h
          rw [Heap.get_put, if_pos this, hget, if_pos this]
      | gen => exact inv.there c hj hjf hed g ho hh (x := .gen) (hx.trans (by rw [he])) (fun i => trivial) (.inr ⟨rfl, ev_gen he⟩) hK'
      | dirty => exact inv.there c hj hjf hed g ho hh (x := .dirty) (hx.trans (by rw [he])) (fun i => trivial) (.inl ⟨.inl rfl, fun i ht hi => absurd (.inr (.inr ⟨.inl (hx.trans (by rw [he])), hi⟩)) ht⟩) hK'
      | upd b => exact inv.there c hj hjf hed g ho hh (x := .upd b) (hx.trans (by rw [he])) (fun i => trivial) (.inl ⟨.inr ⟨b, rfl⟩, fun i ht hi => by
          by_cases hib : i = b
          · exact absurd (.inr (.inr ⟨.inr (hx.trans (by rw [he, hib])), hi⟩)) ht
          · exact ev_upd hp2 ho2 he hib hi⟩) hK'
/-- every order -/
theorem FInv.all (c : FCtx P C S U N ops frs hs vs xs) {r : Option Nat} {Q : Exit → Act → World → Prop}
    (hend : ∀ listed a w D ρ H, FInv C s0 U N X ops frs hs vs xs D0 ρ0 w0 listed a w D ρ H → (∀ k : Nat, k < ops.size → listed[k]? = some true) → Q .normal a w) :
    ∀ (n : Nat) (listed : Array Bool) (a : Act) (w : World) (D : Nat → Prop) (ρ : Env) (H : Heap), n + listed.toList.count true = ops.size → FInv C s0 U N X ops frs hs vs xs D0 ρ0 w0 listed a w D ρ H → wpAnyIn (FF r) 0 P .any ops Q n listed a w := by
  intro n
  induction n with
  | zero =>
    intro listed a w D ρ H hn inv
    have hall : ∀ k, k < ops.size → listed[k]? = some true := by
      have h1 : listed.toList.count true = listed.toList.length := by rw [Array.length_toList, inv.size]; omega
      rw [List.count_eq_length] at h1
      intro k hk
      have hk' : k < listed.size := by rw [inv.size]; exact hk
      rw [Array.getElem?_eq_getElem hk']
      have := h1 listed[k] (by simp)
      rw [← this]
    refine seq_any 0 ops.size listed a w (by omega) inv.size (fun k hk => getD_t.2 (hall k hk)) (fun k h1 h2 => by omega) (fun i o hi ho => by
      have := (Array.getElem?_eq_some_iff.1 ho).1; omega) (fun i o e hi ho => by have := (Array.getElem?_eq_some_iff.1 ho).1; omega) ?_
    rw [List.drop_of_length_le (by simp)]
    unfold wpListIn
    exact hend listed a w D ρ H inv hall
  | succ n ih =>
    intro listed a w D ρ H hn inv
    -- one is left
    have hex : ∃ k, k < ops.size ∧ listed[k]? = some false := by
      apply Classical.byContradiction
      intro hno
      have h1 : listed.toList.count true = listed.toList.length := by
        rw [List.count_eq_length]
        intro b hb
        obtain ⟨k, hk, rfl⟩ := List.getElem_of_mem hb
        have hk' : k < listed.size := by simpa using hk
        cases hv : listed.toList[k] with
        | true => rfl
        | false =>
          refine absurd ⟨k, by rw [← inv.size]; exact hk', ?_⟩ hno
          rw [Array.getElem?_eq_getElem hk']
          have : listed[k] = listed.toList[k] := by simp
          rw [this, hv]
      rw [Array.length_toList, inv.size] at h1
      omega
    obtain ⟨kx, hkx⟩ := hex
    obtain ⟨k0, ⟨hk0, hk0f⟩, _, hmin⟩ := exists_least (fun k => k < ops.size ∧ listed[k]? = some false) kx hkx
    have hready0 : k0 ∈ Region.ready .any ops listed := by
      have ho : ops[k0]? = some ops[k0] := Array.getElem?_eq_getElem hk0
      refine mem_ready.2 ⟨getD_f.2 hk0f, _, ho, fun e he hb => getD_t.2 ?_⟩
      have hlt := (flowB_at c.hB ho).2.2.1 e he hb
      have hk' : e.on < listed.size := by rw [inv.size]; omega
      rw [Array.getElem?_eq_getElem hk']
      congr 1
      cases hv : listed[e.on] with
      | true => rfl
      | false => have := hmin e.on ⟨by omega, by rw [Array.getElem?_eq_getElem hk', hv]⟩; omega
    refine ⟨fun h => (by rw [h] at hready0; cases hready0), fun j hj => ?_⟩
    obtain ⟨hjf, o, hoj, hedges⟩ := mem_ready.1 hj
    have hjf := getD_f.1 hjf
    have hjs := (Array.getElem?_eq_some_iff.1 hoj).1
    have hjls : j < listed.size := by rw [inv.size]; exact hjs
    have hcnt : n + (listed.setIfInBounds j true).toList.count true = ops.size := by
      have hjl : listed.toList[j]? = some false := by simpa using hjf
      have hc : (listed.setIfInBounds j true).toList.count true = listed.toList.count true + 1 := by
        rw [Array.toList_setIfInBounds, List.count_set (by simpa using hjls)]
        have : listed.toList[j]'(by simpa using hjls) = false := by
          have := hjl; rw [List.getElem?_eq_getElem (by simpa using hjls)] at this; simpa using this
        rw [this]; simp
      omega
    have hK : ∀ u w' D' ρ' H', FInv C s0 U N X ops frs hs vs xs D0 ρ0 w0 (listed.setIfInBounds j true) (a.put o.dst u) w' D' ρ' H' → wpAnyIn (FF r) 0 P .any ops Q n (listed.setIfInBounds j true) (a.put o.dst u) w' := fun u w' D' ρ' H' h => ih _ _ _ _ _ _ hcnt h
    unfold wpOpIn
    simp only [hoj]
    rcases inv.go c hoj hjf (fun e he hb => getD_t.1 (hedges e he hb)) (r := r) (Q := Q) (K := fun a w => wpAnyIn (FF r) 0 P .any ops Q n (listed.setIfInBounds j true) a w) hK with ⟨hw, h⟩ | ⟨hw, h⟩
    · rw [if_pos hw]; exact h
    · rw [if_neg (by rw [hw]; simp)]
      exact ⟨fun f _ => FF_fn r f, h⟩
/-- **a region that draws its order** -/
theorem region_sound (hmx : P.follows .mixedOrders = true) (hC : CfgOK P C) (hS : SelfOK P C S) : RegionSound P C S := by
  intro N ops id fr h fr' h' hB he
  obtain ⟨frs, hs, vs, xs, t⟩ := flow_trace _ _ _ _ _ _ _ he
  have hlen : ops.toList.length = ops.size := by simp
  have hst : ∀ (j : Nat) (o : Oper), ops[j]? = some o → StepAt S C ops o (frs j) (hs j) (vs j) (hs (j + 1)) (xs j) ∧ frs (j + 1) = putT (frs j) o.dst (vs j) := fun j o hj => t.st j o (by simpa using hj)
  have hn : hs ops.size = h' := by rw [← hlen]; exact t.hn
  have hf : frs ops.size = fr' := by rw [← hlen]; exact t.fn
  have hcl : ∀ (j k : Nat) (x y : Ev), j < ops.size → k < j → xs j = some x → xs k = some y → y.clash x = true → reachB ops ops.size j k = true := fun j k x y hj hk hx hy hc => by
    have := (t.cl j ops[j] x (by simp [hj]) hx).2 k y hk hy hc
    simpa using this
  have hm : Mono h h' := by
    have : ∀ d, d ≤ ops.size → Mono (hs 0) (hs d) := by
      intro d
      induction d with
      | zero => intro _; exact Mono.refl _
      | succ d ih => intro hd; exact (ih (by omega)).trans ((hst d ops[d] (Array.getElem?_eq_getElem (by omega))).1.mono hS)
    have := this ops.size (Nat.le_refl _)
    rwa [t.h0, hn] at this
  refine ⟨hm, fun s0 U r D ρ a w X Q hU g rel hN hX k => ?_⟩
  have c : FCtx P C S U N ops frs hs vs xs := ⟨hC, hS, hB, hst, hcl, by rw [t.h0]; exact rel.wf, by rw [hn]; exact hU⟩
  refine wpIn_region_any hmx ?_
  have hw0 : h'.wmin ≤ h.wmin := hm.wmin
  refine FInv.all (s0 := s0) (X := X) (D0 := D) (ρ0 := ρ) (w0 := w) c (fun listed a' w' D' ρ' H inv hall => ?_) _ _ a _ D ρ { h with next := h'.next, wmin := h'.wmin } (by simp [List.count_replicate]) ?_
  · have hfr : FrE C D' ρ' fr' a' := by
      have key : ∀ t v, fr'.get t = some v → a'.tmps[t]? = some (conc ρ' v) ∧ InD (DD D' ρ') v := fun t' v hv => by
        rw [← hf] at hv
        rcases c.frs_get t' ops.size (Nat.le_refl _) with ⟨k, p, h1, h2, h3, h4⟩ | ⟨h1, h2⟩
        · rw [h4] at hv; cases hv
          exact inv.got k p t' h2 (hall k h1) h3
        · rw [h2] at hv
          exact inv.base t' v (fun k p hp hpd => absurd hpd (h1 k p (Array.getElem?_eq_some_iff.1 hp).1 hp)) hv
      exact ⟨⟨fun t v hv => (key t v hv).1, fun t v hv => (key t v hv).2, inv.gl⟩⟩
    have hget : ∀ i, D' i → h'.get i = H.get i := fun i hi => by
      rw [← hn]
      exact (inv.cont i hi ops.size (Nat.le_refl _) (fun k hk _ => hall k hk) fun k h1 h2 => by omega).symm
    have hnx : H.next = h'.next := by rw [inv.next, hn]
    have hrel : Rel s0 U D' ρ' h' w' := inv.rel.on (fun i hi => by rw [← hnx]; exact inv.rel.lt i hi) (hm.wf rel.wf) fun i b hi hb => by rw [← hget i hi]; exact hb
    have hnxt := inv.nxt
    rw [t.h0, hn] at hnxt
    exact k D' ρ' a' w' hfr hrel hnxt inv.asz inv.adf
  · have hlt : ∀ i, D i → i < h'.next ∨ U ≤ i := fun i hi => by
      have := rel.lt i hi
      have := hm.nxt
      omega
    refine ⟨by simp, hN, hX, ?_, by rw [hn], by rw [hn], fun i hi => .inl hi, by rw [t.h0]; exact rel.lt, ?_, ?_, ?_, ?_, ?_, g.gl⟩
    · intro k o e _ hl; simp [Array.getElem?_replicate] at hl
    · intro i hi p hp h1 _
      have := c.keep (j := 0) (i := i) p (by omega) fun k _ hk ht => by
        have := h1 k (by omega) ht
        simp [Array.getElem?_replicate] at this
      rw [Nat.zero_add] at this
      rw [this, t.h0]; rfl
    · exact (rel.drawn _).on hlt (fun i hi => rel.wf i (by have hi : h'.next ≤ i := hi; have := hm.nxt; omega)) fun i b _ hb => hb
    · rw [t.h0, hn]
      refine ⟨fun _ h => h, fun _ h => .inl h, fun _ _ => ⟨rfl, rfl, rfl, rfl⟩, fun _ _ _ => rfl, fun i hi q1 q2 => ?_, Nat.le_refl _, hw0, hm.nxt, rfl, rfl, rfl⟩
      have := rel.lt i hi
      omega
    · intro k o t' _ hl; simp [Array.getElem?_replicate] at hl
    · intro t' v _ hv
      rw [t.f0] at hv
      exact ⟨g.at_ t' v hv, g.in_ t' v hv⟩
end
end Go.Proofs.YtmlemnbhjbaedaaGreatDoor

/-
  What the proof of AcctTotal stands on, part 3. No condition.
-/
import Derived.Laws.Externs
import Derived.Shelf.Abstract
import Derived.MakeChecks
import Derived.OpenShut
import Derived.FnData
import Derived.KernelRfl
import Derived.Test.YtgeelfdgnehdnaaProg
import Derived.Test.YtgeelfdgnehdnaaZAcctTotalB
namespace Go.Proofs.Ytgeelfdgnehdnaa
open Go.RowKit
set_option linter.unusedSimpArgs false
set_option linter.unusedVariables false
section
variable {P : Program} {C : Cfg} {S : Self} {s0 : World} {U N : Nat} {X : List Deferred} {ops : Array Oper} {frs : Nat → Tr V} {hs : Nat → Heap} {vs : Nat → V} {xs : Nat → Option Ev} {D0 : Nat → Prop} {ρ0 : Env} {w0 : World} {listed : Array Bool} {a : Act} {w : World} {D : Nat → Prop} {ρ : Env} {H : Heap}
theorem FInv.here (c : FCtx P C S U N ops frs hs vs xs) (inv : FInv C s0 U N X ops frs hs vs xs D0 ρ0 w0 listed a w D ρ H) {j : Nat} {o : Oper} (hj : ops[j]? = some o) (hjf : listed[j]? = some false)
    (hed : ∀ e ∈ o.after, Region.binds .any e = true → listed[e.on]? = some true) {fc : Tr V} (g : FrE C D ρ fc a) {H1 : Heap} (ho : opV S C fc H o = some (vs j, H1)) (hn : H1.next = H.next) (hw : (hs ops.size).wmin ≤ H1.wmin)
    (hnn : (hs (j + 1)).next = (hs j).next) (hkeep : ∀ i, D i → ¬ Tch (xs j) (hs j).next (hs (j + 1)).next i → H1.get i = H.get i) (hnew : ∀ i, D i → Tch (xs j) (hs j).next (hs (j + 1)).next i → H1.get i = (hs (j + 1)).get i)
    {r : Option Nat} {K : Act → World → Prop} {Q : Exit → Act → World → Prop} (hK : ∀ w' D' ρ' H', FInv C s0 U N X ops frs hs vs xs D0 ρ0 w0 (listed.setIfInBounds j true) (a.put o.dst (conc ρ' (vs j))) w' D' ρ' H' → K (a.put o.dst (conc ρ' (vs j))) w') : o.wpIn (FF r) 0 P a w K Q := by
  have hjs := (Array.getElem?_eq_some_iff.1 hj).1
  obtain ⟨hnd, _⟩ := flowB_at c.hB hj
  have hU : H1.next ≤ U := by rw [hn, inv.next]; exact c.hU
  refine opV_sound c.hC c.hS hnd ho hU g inv.rel fun D' ρ' w' rel1 nxt1 in1 => ?_
  have hD' : ∀ i, D' i → D i := fun i hi => by
    rcases nxt1.new i hi with h | ⟨h, h'⟩
    · exact h
    · rw [hn] at h'; omega
  have m0 := (c.monoLe (Nat.zero_le ops.size) (Nat.le_refl _)).nxt
  refine hK w' D' ρ' { H1 with next := (hs ops.size).next, wmin := (hs ops.size).wmin } (inv.upd c hj hjf hed (fun i hi => .inl (hD' i hi)) rfl rfl (fun i hi => hkeep i (hD' i hi)) (fun i hi => hnew i (hD' i hi)) ?_ ?_ (nxt1.agree inv.rel.lt hU) (nxt1.dd inv.rel.lt hU) in1)
  · exact rel1.on (fun i hi => by
      have h1 := rel1.lt i hi
      have h2 := inv.next
      show i < (hs ops.size).next ∨ U ≤ i
      omega) (fun i hi => rel1.wf i (by rw [hn, inv.next]; exact hi)) fun i b _ hb => hb
  · exact Nxt.ext inv.lt0 inv.nxt nxt1 c.hU (by rw [inv.next]; exact m0) (by rw [hn, inv.next]; exact Nat.le_refl _) hw (fun i _ h => by rw [hn] at h; omega)
theorem FInv.there (c : FCtx P C S U N ops frs hs vs xs) (inv : FInv C s0 U N X ops frs hs vs xs D0 ρ0 w0 listed a w D ρ H) {j : Nat} {o : Oper} (hj : ops[j]? = some o) (hjf : listed[j]? = some false)
    (hed : ∀ e ∈ o.after, Region.binds .any e = true → listed[e.on]? = some true) {fc : Tr V} (g : FrE C D ρ fc a) {h1 : Heap} (ho : opV S C fc { hs j with wmin := (hs j).next } o = some (vs j, h1)) (hj1 : hs (j + 1) = { h1 with wmin := minN (hs j).wmin h1.wmin })
    {x : Ev} (hx : xs j = some x) (hr : ∀ i, Reads x i) (hg : ((x = .dirty ∨ ∃ b, x = .upd b) ∧ ∀ i, ¬ Tch (xs j) (hs j).next h1.next i → i < (hs j).next → h1.get i = (hs j).get i) ∨ (x = .gen ∧ (hs j).next ≤ h1.wmin))
    {r : Option Nat} {K : Act → World → Prop} {Q : Exit → Act → World → Prop} (hK : ∀ w' D' ρ' H', FInv C s0 U N X ops frs hs vs xs D0 ρ0 w0 (listed.setIfInBounds j true) (a.put o.dst (conc ρ' (vs j))) w' D' ρ' H' → K (a.put o.dst (conc ρ' (vs j))) w') : o.wpIn (FF r) 0 P a w K Q := by
  have hjs := (Array.getElem?_eq_some_iff.1 hj).1
  obtain ⟨hnd, _⟩ := flowB_at c.hB hj
  have hm := opV_mono c.hS ho
  have hjn : (hs (j + 1)).next = h1.next := by rw [hj1]
  have hjg : ∀ i, (hs (j + 1)).get i = h1.get i := fun i => by rw [hj1]; rfl
  have hle := (c.monoLe (show j + 1 ≤ ops.size by omega) (Nat.le_refl _)).nxt
  have m0 := (c.monoLe (Nat.zero_le ops.size) (Nat.le_refl _)).nxt
  have m0j := (c.monoLe (Nat.zero_le j) (by omega)).nxt
  have hmj : (hs j).next ≤ h1.next := hm.nxt
  have hU := c.hU
  have hwm : (hs ops.size).wmin ≤ h1.wmin := by
    have q1 := (c.monoLe (show j + 1 ≤ ops.size by omega) (Nat.le_refl _)).wmin
    have q2 := (minN_le (hs j).wmin h1.wmin).2
    rw [hj1] at q1
    exact Nat.le_trans q1 q2
  -- the blocks that are told of lie ahead of its own, or behind
  have hD : ∀ i, D i → i < (hs j).next ∨ h1.next ≤ i := fun i hi => by
    rcases inv.char i hi with h | ⟨k, hk, g1, g2⟩
    · have := inv.lt0 i h; omega
    · have hks : k < ops.size := by rw [← inv.size]; exact (Array.getElem?_eq_some_iff.1 hk).1
      rcases Nat.lt_trichotomy k j with h | h | h
      · have := (c.monoLe (show k + 1 ≤ j by omega) (by omega)).nxt; omega
      · rw [h, hjf] at hk; cases hk
      · have := (c.monoLe (show j + 1 ≤ k by omega) (by omega)).nxt; omega
  have rel1 : Rel s0 h1.next D ρ { hs j with wmin := (hs j).next } w := inv.rel.on hD (c.wf (by omega)) fun i b hi hb => by
    have hb : (hs j).get i = some b := hb
    have hlt : i < (hs j).next := by
      rcases Nat.lt_or_ge i (hs j).next with h | h
      · exact h
      · rw [c.wf (by omega) i h] at hb; cases hb
    rw [inv.now c hj hjf hed hx (hr i) hi hlt]; exact hb
  refine opV_sound c.hC c.hS hnd ho (Nat.le_refl _) g rel1 fun D' ρ' w' rel2 nxt2 in2 => ?_
  have hnew : ∀ i, D' i → D i ∨ ((hs j).next ≤ i ∧ i < h1.next) := nxt2.new
  have ag := nxt2.agree rel1.lt (Nat.le_refl _)
  have dd := nxt2.dd rel1.lt (Nat.le_refl _)
  have nx := Nxt.ext inv.lt0 inv.nxt nxt2 c.hU (by exact m0j) (by omega) hwm (fun i hi h => by
    have := hD i hi
    have h : (hs j).next ≤ i ∧ i < h1.next := h
    omega)
  have ltU : ∀ i, D' i → i < (hs ops.size).next ∨ U ≤ i := fun i hi => by
    rcases hnew i hi with h | h
    · have := inv.rel.lt i h; rw [inv.next] at this; exact this
    · omega
  rcases hg with ⟨hxx, hkp⟩ | ⟨rfl, hwn⟩
  · -- it turns what it likes: nothing behind it has had a turn
    have hD2 : ∀ i, D i → i < (hs j).next ∨ (hs ops.size).next ≤ i := fun i hi => by
      rcases inv.char i hi with h | ⟨k, hk, g1, g2⟩
      · have := inv.lt0 i h; omega
      · have hks : k < ops.size := by rw [← inv.size]; exact (Array.getElem?_eq_some_iff.1 hk).1
        rcases Nat.lt_trichotomy k j with h | h | h
        · have := (c.monoLe (show k + 1 ≤ j by omega) (by omega)).nxt; omega
        · rw [h, hjf] at hk; cases hk
        · obtain ⟨_, y, ry, hnl, _⟩ := c.tch_ev hks (.inl ⟨g1, g2⟩)
          have hcl : x.clash y = true := by
            rcases hxx with rfl | ⟨b, rfl⟩
            · cases y <;> rfl
            · cases y <;> first | rfl | exact absurd rfl (hnl _)
          have := reach_listed inv.closed _ k j (c.cl k j y x hks h ry hx hcl) fun o' e ho' he hb => inv.closed k o' e ho' hk he hb
          rw [hjf] at this; cases this
    refine hK w' D' ρ' { h1 with next := (hs ops.size).next, wmin := (hs ops.size).wmin } (inv.upd c hj hjf hed (fun i hi => by rw [hjn]; exact hnew i hi) rfl rfl ?_ (fun i _ _ => (hjg i).symm) ?_ nx ag dd in2)
    · intro i hi ht
      have hi' : D i := by
        rcases hnew i hi with h | h
        · exact h
        · exact absurd (.inl (by rw [hjn]; exact h)) ht
      rcases hD2 i hi' with h | h
      · have e1 := hkp i (by rw [← hjn]; exact ht) h
        have e2 := inv.now c hj hjf hed hx (hr i) hi' h
        show h1.get i = H.get i
        rw [e1, e2]
      · have e1 : h1.get i = none := rel2.wf i (by omega)
        have e2 : H.get i = none := inv.rel.wf i (by rw [inv.next]; exact h)
        rw [e2]; exact e1
    · exact rel2.on ltU (fun i hi => rel2.wf i (by have hi : (hs ops.size).next ≤ i := hi; omega)) fun i b _ hb => hb
  · -- it turns nothing: what it made comes in between
    obtain ⟨tr, htr⟩ := Tr.of (fun i => if (hs j).next ≤ i ∧ i < h1.next then h1.get i else H.get i) (hs ops.size).next
    have hget : ∀ i, (Heap.mk (hs ops.size).next (hs ops.size).wmin tr).get i = if i < (hs ops.size).next then (if (hs j).next ≤ i ∧ i < h1.next then h1.get i else H.get i) else none := htr
    have hframe : ∀ b, b < w.heap.size → w'.heap[b]? = w.heap[b]? := fun b hb => nxt2.frame b hb fun i _ q1 q2 => by
      have q2 : i < (hs j).next := q2
      omega
    have hfresh : ∀ i, D' i → (hs j).next ≤ i → i < h1.next → w.heap.size ≤ ρ'.b i := fun i hi q1 q2 => by
      rcases nxt2.fresh i hi q1 q2 with h | ⟨k, _, k2, k3, _⟩
      · exact h
      · have k3 : k < (hs j).next := k3
        omega
    have get : ∀ i b, D' i → (Heap.mk (hs ops.size).next (hs ops.size).wmin tr).get i = some b → ((hs j).next ≤ i ∧ i < h1.next ∧ h1.get i = some b) ∨ (D i ∧ H.get i = some b ∧ ρ'.b i = ρ.b i) := fun i b hi hb => by
      rw [hget] at hb
      split at hb
      · split at hb
        · rename_i h; exact .inl ⟨h.1, h.2, hb⟩
        · rename_i h
          have hi' : D i := by
            rcases hnew i hi with h' | h'
            · exact h'
            · exact absurd h' h
          exact .inr ⟨hi', hb, (ag i 0 ⟨hi', Nat.zero_le _⟩).1⟩
      · cases hb
    have hsz := nxt2.size
    refine hK w' D' ρ' ⟨(hs ops.size).next, (hs ops.size).wmin, tr⟩ (inv.upd c hj hjf hed (fun i hi => by rw [hjn]; exact hnew i hi) rfl rfl ?_ ?_ ?_ nx ag dd in2)
    · intro i hi ht
      rw [hget]
      have hni : ¬ ((hs j).next ≤ i ∧ i < h1.next) := fun h => ht (.inl (by rw [hjn]; exact h))
      rw [if_neg hni]
      by_cases hlt : i < (hs ops.size).next
      · rw [if_pos hlt]
      · rw [if_neg hlt, inv.rel.wf i (by rw [inv.next]; omega)]
    · intro i hi ht
      rw [hjg, hget]
      have hr : (hs j).next ≤ i ∧ i < h1.next := by
        rcases ht with h | h | ⟨h | h, _⟩
        · rw [hjn] at h; exact h
        · rw [hx] at h; cases h
        · rw [hx] at h; cases h
        · rw [hx] at h; cases h
      rw [if_pos (by omega), if_pos hr]
    · refine ⟨ltU, fun i hi => ?_, fun i b hi hb => ?_, fun i b hi hb => ?_, fun i k b d hi hk hb hd hob hod hne => ?_, fun i b hi hb hob => ?_, fun i k b d hi hk hb hd hob hod => ?_, rel2.base⟩
      · have hi : (hs ops.size).next ≤ i := hi
        rw [hget, if_neg (by omega)]
      · rcases get i b hi hb with ⟨q1, q2, q3⟩ | ⟨q1, q2, q3⟩
        · exact rel2.has i b hi q3
        · obtain ⟨ob, g1, g2⟩ := inv.rel.has i b q1 q2
          refine ⟨ob, ?_, KnB.agree ag (m := 0) ⟨q1, Nat.zero_le _⟩ (inv.rel.clo i b q1 q2) g2⟩
          rw [q3, hframe _ (Array.getElem?_eq_some_iff.1 g1).1]; exact g1
      · rcases get i b hi hb with ⟨q1, q2, q3⟩ | ⟨q1, q2, q3⟩
        · exact rel2.clo i b hi q3
        · exact (inv.rel.clo i b q1 q2).mono dd
      · rcases get i b hi hb with ⟨q1, q2, q3⟩ | ⟨q1, q2, q3⟩ <;> rcases get k d hk hd with ⟨p1, p2, p3⟩ | ⟨p1, p2, p3⟩
        · exact rel2.inj i k b d hi hk q3 p3 hob hod hne
        · rw [p3]
          obtain ⟨od, g1, _⟩ := inv.rel.has k d p1 p2
          have := (Array.getElem?_eq_some_iff.1 g1).1
          have := hfresh i hi q1 q2
          omega
        · rw [q3]
          obtain ⟨od, g1, _⟩ := inv.rel.has i b q1 q2
          have := (Array.getElem?_eq_some_iff.1 g1).1
          have := hfresh k hk p1 p2
          omega
        · rw [q3, p3]; exact inv.rel.inj i k b d q1 p1 q2 p2 hob hod hne
      · rcases get i b hi hb with ⟨q1, q2, q3⟩ | ⟨q1, q2, q3⟩
        · exact rel2.own i b hi q3 hob
        · rw [q3]; exact inv.rel.own i b q1 q2 hob
      · rcases get i b hi hb with ⟨q1, q2, q3⟩ | ⟨q1, q2, q3⟩ <;> rcases get k d hk hd with ⟨p1, p2, p3⟩ | ⟨p1, p2, p3⟩
        · exact rel2.old i k b d hi hk q3 p3 hob hod
        · rw [p3]
          obtain ⟨od, g1, _⟩ := inv.rel.has k d p1 p2
          have := (Array.getElem?_eq_some_iff.1 g1).1
          have := hfresh i hi q1 q2
          omega
        · rw [q3]
          obtain ⟨od, g1, _⟩ := inv.rel.has i b q1 q2
          have := (Array.getElem?_eq_some_iff.1 g1).1
          have := hfresh k hk p1 p2
          omega
        · rw [q3, p3]; exact inv.rel.old i k b d q1 p1 q2 p2 hob hod
theorem FInv.go (c : FCtx P C S U N ops frs hs vs xs) (inv : FInv C s0 U N X ops frs hs vs xs D0 ρ0 w0 listed a w D ρ H) {j : Nat} {o : Oper} (hj : ops[j]? = some o) (hjf : listed[j]? = some false)
    (hed : ∀ e ∈ o.after, Region.binds .any e = true → listed[e.on]? = some true) {r : Option Nat} {K : Act → World → Prop} {Q : Exit → Act → World → Prop} (hK : ∀ u w' D' ρ' H', FInv C s0 U N X ops frs hs vs xs D0 ρ0 w0 (listed.setIfInBounds j true) (a.put o.dst u) w' D' ρ' H' → K (a.put o.dst u) w') :
    (Region.wanted o (yielded ops a.tmps) = true ∧ o.wpIn (FF r) 0 P a w K Q) ∨ (Region.wanted o (yielded ops a.tmps) = false ∧ K (a.put o.dst undef) w) := by
  have hjs := (Array.getElem?_eq_some_iff.1 hj).1
  obtain ⟨hst, _⟩ := c.st j o hj
  obtain ⟨fc, hfc, g⟩ := inv.fr c hj hjf hed
  have hev := cut_ev (C := C) (fr := frs j) hfc
  rcases hst with ⟨hw, hv, hh, hx⟩ | ⟨hw, hst⟩
  · -- left out
    right
    rw [cut_want hfc] at hw
    refine ⟨wantV_spec g hw, ?_⟩
    have hv' : conc ρ (vs j) = undef := by rw [hv]; rfl
    refine hK undef w D ρ H ?_
    have hnt : ∀ i, ¬ Tch (xs j) (hs j).next (hs (j + 1)).next i := fun i h => by
      rw [hx, hh] at h
      rcases h with h | h | h
      · omega
      · cases h
      · rcases h.1 with h | h <;> cases h
    have := inv.upd c hj hjf hed (D' := D) (ρ' := ρ) (H' := H) (w' := w) (fun i hi => .inl hi) inv.next inv.wmin (fun i _ _ => rfl) (fun i _ h => absurd h (hnt i)) inv.rel inv.nxt (fun _ _ _ => ⟨rfl, rfl, rfl, rfl⟩) (fun _ _ h => h) (by rw [hv]; trivial)
    rwa [hv'] at this
  · left
    have hw' := hw
    rw [cut_want hfc] at hw'
    refine ⟨wantV_spec g hw', ?_⟩
    have hK' : ∀ w' D' ρ' H', FInv C s0 U N X ops frs hs vs xs D0 ρ0 w0 (listed.setIfInBounds j true) (a.put o.dst (conc ρ' (vs j))) w' D' ρ' H' → K (a.put o.dst (conc ρ' (vs j))) w' := fun w' D' ρ' H' => hK _ w' D' ρ' H'
    rcases stepF_cases hst with ⟨hp, hh, hx⟩ | ⟨h1, hp, ho, hh, hx⟩
    · have hnt : ∀ i, ¬ Tch (xs j) (hs j).next (hs (j + 1)).next i := fun i h => by
        rw [hx, hh] at h
        rcases h with h | h | h
        · omega
        · cases h
        · rcases h.1 with h | h <;> cases h
      rw [pureV_congr o.op hev] at hp
      refine inv.here c hj hjf hed g (H1 := H) (by unfold opV; simp only [hp]) rfl (Nat.le_of_eq inv.wmin.symm) (by rw [hh]) (fun _ _ _ => rfl) (fun i _ h => absurd h (hnt i)) hK'
    · have hnx : (hs (j + 1)).next = h1.next := by rw [hh]
      have hp2 := hp
      have ho2 := ho
      rw [opV_congr o hev] at ho
      rw [pureV_congr o.op hev] at hp
      have hb : ∀ {b : Nat} x off B, x ∈ o.op.operands → evV C (frs j) x = some (.ptr b off) → (Heap.mk (hs j).next (hs j).next (hs j).tr).get b = some B → D b ∧ b < (hs j).next := fun {b} x off B h1 h2 h3 => by
        rw [hev x h1] at h2
        have h3 : (hs j).get b = some B := h3
        refine ⟨(g.ev h2).2.1, ?_⟩
        rcases Nat.lt_or_ge b (hs j).next with h | h
        · exact h
        · rw [c.wf (by omega) b h] at h3; cases h3
      cases he : evOf C (frs j) (hs j) h1 o.op with
      | load b =>
        obtain ⟨⟨e1, e2⟩, ⟨B, hB⟩, x, off, hxo, hxb⟩ := ev_load hp2 ho2 he
        obtain ⟨hDb, hlt⟩ := hb x off B hxo hxb hB
        have hxl : xs j = some (.load b) := by rw [hx, he]
        have hnn : (hs (j + 1)).next = (hs j).next := by rw [hnx, e1]
        have hnt : ∀ i, ¬ Tch (xs j) (hs j).next (hs (j + 1)).next i := fun i h => by
          rw [hxl, hnn] at h
          rcases h with h | h | h
          · omega
          · cases h
          · rcases h.1 with h | h <;> cases h
        have hH : H.get b = (hs j).get b := inv.now c hj hjf hed hxl rfl hDb hlt
        have ho3 := e2 H (by rw [hH]; rfl)
        rw [opV_congr o hev] at ho3
        exact inv.here c hj hjf hed g ho3 rfl (Nat.le_of_eq inv.wmin.symm) hnn (fun _ _ _ => rfl) (fun i _ h => absurd h (hnt i)) hK'
      | store b =>
        obtain ⟨⟨B, B', hB, e1, e2⟩, x, off, hxo, hxb⟩ := ev_store hp2 ho2 he
        obtain ⟨hDb, hlt⟩ := hb x off B hxo hxb hB
        have hxl : xs j = some (.store b) := by rw [hx, he]
        have hnn : (hs (j + 1)).next = (hs j).next := by rw [hnx, e1]; rfl
        have hH : H.get b = (hs j).get b := inv.now c hj hjf hed hxl rfl hDb hlt
        have hget : ∀ i, (hs (j + 1)).get i = if i = b then some B' else (hs j).get i := fun i => by
          rw [hh, e1]; exact Heap.get_put _ _ _ _
        have hwb : (hs ops.size).wmin ≤ b := by
          have q1 := (c.monoLe (show j + 1 ≤ ops.size by omega) (Nat.le_refl _)).wmin
          have q2 := (minN_le (hs j).wmin h1.wmin).2
          have q3 := (wmin_le (hs j).next b).2
          rw [hh] at q1
          have q4 : h1.wmin = wmn (hs j).next b := by rw [e1]; rfl
          have q1 : (hs ops.size).wmin ≤ minN (hs j).wmin h1.wmin := q1
          omega
        have ho3 := e2 H (by rw [hH]; rfl)
        rw [opV_congr o hev] at ho3
        refine inv.here c hj hjf hed g ho3 rfl ?_ hnn (fun i _ hi => ?_) (fun i _ hi => ?_) hK'
        · show (hs ops.size).wmin ≤ wmn H.wmin b
          unfold wmn
          split
          · exact Nat.le_of_eq inv.wmin.symm
          · exact hwb
        · rw [Heap.get_put, if_neg]
          rintro rfl
          exact hi (.inr (.inl hxl))
        · have : i = b := by
            rw [hxl, hnn] at hi
            rcases hi with h | h | h
            · omega
            · cases h; rfl
            · rcases h.1 with h | h <;> cases h
          rw [Heap.get_put, if_pos this, hget, if_pos this]
      | gen => exact inv.there c hj hjf hed g ho hh (x := .gen) (hx.trans (by rw [he])) (fun i => trivial) (.inr ⟨rfl, ev_gen he⟩) hK'
      | dirty => exact inv.there c hj hjf hed g ho hh (x := .dirty) (hx.trans (by rw [he])) (fun i => trivial) (.inl ⟨.inl rfl, fun i ht hi => absurd (.inr (.inr ⟨.inl (hx.trans (by rw [he])), hi⟩)) ht⟩) hK'
      | upd b => exact inv.there c hj hjf hed g ho hh (x := .upd b) (hx.trans (by rw [he])) (fun i => trivial) (.inl ⟨.inr ⟨b, rfl⟩, fun i ht hi => by
          by_cases hib : i = b
          · exact absurd (.inr (.inr ⟨.inr (hx.trans (by rw [he, hib])), hi⟩)) ht
          · exact ev_upd hp2 ho2 he hib hi⟩) hK'
theorem FInv.all (c : FCtx P C S U N ops frs hs vs xs) {r : Option Nat} {Q : Exit → Act → World → Prop}
    (hend : ∀ listed a w D ρ H, FInv C s0 U N X ops frs hs vs xs D0 ρ0 w0 listed a w D ρ H → (∀ k : Nat, k < ops.size → listed[k]? = some true) → Q .normal a w) :
    ∀ (n : Nat) (listed : Array Bool) (a : Act) (w : World) (D : Nat → Prop) (ρ : Env) (H : Heap), n + listed.toList.count true = ops.size → FInv C s0 U N X ops frs hs vs xs D0 ρ0 w0 listed a w D ρ H → wpAnyIn (FF r) 0 P .any ops Q n listed a w := by
  intro n
  induction n with
  | zero =>
    intro listed a w D ρ H hn inv
    have hall : ∀ k, k < ops.size → listed[k]? = some true := by
      have h1 : listed.toList.count true = listed.toList.length := by rw [Array.length_toList, inv.size]; omega
      rw [List.count_eq_length] at h1
      intro k hk
      have hk' : k < listed.size := by rw [inv.size]; exact hk
      rw [Array.getElem?_eq_getElem hk']
      have := h1 listed[k] (by simp)
      rw [← this]
    refine seq_any 0 ops.size listed a w (by omega) inv.size (fun k hk => getD_t.2 (hall k hk)) (fun k h1 h2 => by omega) (fun i o hi ho => by
      have := (Array.getElem?_eq_some_iff.1 ho).1; omega) (fun i o e hi ho => by have := (Array.getElem?_eq_some_iff.1 ho).1; omega) ?_
    rw [List.drop_of_length_le (by simp)]
    unfold wpListIn
    exact hend listed a w D ρ H inv hall
  | succ n ih =>
    intro listed a w D ρ H hn inv
    -- one is left
    have hex : ∃ k, k < ops.size ∧ listed[k]? = some false := by
      apply Classical.byContradiction
      intro hno
      have h1 : listed.toList.count true = listed.toList.length := by
        rw [List.count_eq_length]
        intro b hb
        obtain ⟨k, hk, rfl⟩ := List.getElem_of_mem hb
        have hk' : k < listed.size := by simpa using hk
        cases hv : listed.toList[k] with
        | true => rfl
        | false =>
          refine absurd ⟨k, by rw [← inv.size]; exact hk', ?_⟩ hno
          rw [Array.getElem?_eq_getElem hk']
          have : listed[k] = listed.toList[k] := by simp
          rw [this, hv]
      rw [Array.length_toList, inv.size] at h1
      omega
    obtain ⟨kx, hkx⟩ := hex
    obtain ⟨k0, ⟨hk0, hk0f⟩, _, hmin⟩ := exists_least (fun k => k < ops.size ∧ listed[k]? = some false) kx hkx
    have hready0 : k0 ∈ Region.ready .any ops listed := by
      have ho : ops[k0]? = some ops[k0] := Array.getElem?_eq_getElem hk0
      refine mem_ready.2 ⟨getD_f.2 hk0f, _, ho, fun e he hb => getD_t.2 ?_⟩
      have hlt := (flowB_at c.hB ho).2.2.1 e he hb
      have hk' : e.on < listed.size := by rw [inv.size]; omega
      rw [Array.getElem?_eq_getElem hk']
      congr 1
      cases hv : listed[e.on] with
      | true => rfl
      | false => have := hmin e.on ⟨by omega, by rw [Array.getElem?_eq_getElem hk', hv]⟩; omega
    refine ⟨fun h => (by rw [h] at hready0; cases hready0), fun j hj => ?_⟩
    obtain ⟨hjf, o, hoj, hedges⟩ := mem_ready.1 hj
    have hjf := getD_f.1 hjf
    have hjs := (Array.getElem?_eq_some_iff.1 hoj).1
    have hjls : j < listed.size := by rw [inv.size]; exact hjs
    have hcnt : n + (listed.setIfInBounds j true).toList.count true = ops.size := by
      have hjl : listed.toList[j]? = some false := by simpa using hjf
      have hc : (listed.setIfInBounds j true).toList.count true = listed.toList.count true + 1 := by
        rw [Array.toList_setIfInBounds, List.count_set (by simpa using hjls)]
        have : listed.toList[j]'(by simpa using hjls) = false := by
          have := hjl; rw [List.getElem?_eq_getElem (by simpa using hjls)] at this; simpa using this
        rw [this]; simp
      omega
    have hK : ∀ u w' D' ρ' H', FInv C s0 U N X ops frs hs vs xs D0 ρ0 w0 (listed.setIfInBounds j true) (a.put o.dst u) w' D' ρ' H' → wpAnyIn (FF r) 0 P .any ops Q n (listed.setIfInBounds j true) (a.put o.dst u) w' := fun u w' D' ρ' H' h => ih _ _ _ _ _ _ hcnt h
    unfold wpOpIn
    simp only [hoj]
    rcases inv.go c hoj hjf (fun e he hb => getD_t.1 (hedges e he hb)) (r := r) (Q := Q) (K := fun a w => wpAnyIn (FF r) 0 P .any ops Q n (listed.setIfInBounds j true) a w) hK with ⟨hw, h⟩ | ⟨hw, h⟩
    · rw [if_pos hw]; exact h
    · rw [if_neg (by rw [hw]; simp)]
      exact ⟨fun f _ => FF_fn r f, h⟩
theorem region_sound (hmx : P.follows .mixedOrders = true) (hC : CfgOK P C) (hS : SelfOK P C S) : RegionSound P C S := by
  intro N ops id fr h fr' h' hB he
  obtain ⟨frs, hs, vs, xs, t⟩ := flow_trace _ _ _ _ _ _ _ he
  have hlen : ops.toList.length = ops.size := by simp
  have hst : ∀ (j : Nat) (o : Oper), ops[j]? = some o → StepAt S C ops o (frs j) (hs j) (vs j) (hs (j + 1)) (xs j) ∧ frs (j + 1) = putT (frs j) o.dst (vs j) := fun j o hj => t.st j o (by simpa using hj)
  have hn : hs ops.size = h' := by rw [← hlen]; exact t.hn
  have hf : frs ops.size = fr' := by rw [← hlen]; exact t.fn
  have hcl : ∀ (j k : Nat) (x y : Ev), j < ops.size → k < j → xs j = some x → xs k = some y → y.clash x = true → reachB ops ops.size j k = true := fun j k x y hj hk hx hy hc => by
    have := (t.cl j ops[j] x (by simp [hj]) hx).2 k y hk hy hc
    simpa using this
  have hm : Mono h h' := by
    have : ∀ d, d ≤ ops.size → Mono (hs 0) (hs d) := by
      intro d
      induction d with
      | zero => intro _; exact Mono.refl _
      | succ d ih => intro hd; exact (ih (by omega)).trans ((hst d ops[d] (Array.getElem?_eq_getElem (by omega))).1.mono hS)
    have := this ops.size (Nat.le_refl _)
    rwa [t.h0, hn] at this
  refine ⟨hm, fun s0 U r D ρ a w X Q hU g rel hN hX k => ?_⟩
  have c : FCtx P C S U N ops frs hs vs xs := ⟨hC, hS, hB, hst, hcl, by rw [t.h0]; exact rel.wf, by rw [hn]; exact hU⟩
  refine wpIn_region_any hmx ?_
  have hw0 : h'.wmin ≤ h.wmin := hm.wmin
  refine FInv.all (s0 := s0) (X := X) (D0 := D) (ρ0 := ρ) (w0 := w) c (fun listed a' w' D' ρ' H inv hall => ?_) _ _ a _ D ρ { h with next := h'.next, wmin := h'.wmin } (by simp [List.count_replicate]) ?_
  · have hfr : FrE C D' ρ' fr' a' := by
      have key : ∀ t v, fr'.get t = some v → a'.tmps[t]? = some (conc ρ' v) ∧ InD (DD D' ρ') v := fun t' v hv => by
        rw [← hf] at hv
        rcases c.frs_get t' ops.size (Nat.le_refl _) with ⟨k, p, h1, h2, h3, h4⟩ | ⟨h1, h2⟩
        · rw [h4] at hv; cases hv
          exact inv.got k p t' h2 (hall k h1) h3
        · rw [h2] at hv
          exact inv.base t' v (fun k p hp hpd => absurd hpd (h1 k p (Array.getElem?_eq_some_iff.1 hp).1 hp)) hv
      exact ⟨⟨fun t v hv => (key t v hv).1, fun t v hv => (key t v hv).2, inv.gl⟩⟩
    have hget : ∀ i, D' i → h'.get i = H.get i := fun i hi => by
      rw [← hn]
      exact (inv.cont i hi ops.size (Nat.le_refl _) (fun k hk _ => hall k hk) fun k h1 h2 => by omega).symm
    have hnx : H.next = h'.next := by rw [inv.next, hn]
    have hrel : Rel s0 U D' ρ' h' w' := inv.rel.on (fun i hi => by rw [← hnx]; exact inv.rel.lt i hi) (hm.wf rel.wf) fun i b hi hb => by rw [← hget i hi]; exact hb
    have hnxt := inv.nxt
    rw [t.h0, hn] at hnxt
    exact k D' ρ' a' w' hfr hrel hnxt inv.asz inv.adf
  · have hlt : ∀ i, D i → i < h'.next ∨ U ≤ i := fun i hi => by
      have := rel.lt i hi
      have := hm.nxt
      omega
    refine ⟨by simp, hN, hX, ?_, by rw [hn], by rw [hn], fun i hi => .inl hi, by rw [t.h0]; exact rel.lt, ?_, ?_, ?_, ?_, ?_, g.gl⟩
    · intro k o e _ hl; simp [Array.getElem?_replicate] at hl
    · intro i hi p hp h1 _
      have := c.keep (j := 0) (i := i) p (by omega) fun k _ hk ht => by
        have := h1 k (by omega) ht
        simp [Array.getElem?_replicate] at this
      rw [Nat.zero_add] at this
      rw [this, t.h0]; rfl
    · exact (rel.drawn _).on hlt (fun i hi => rel.wf i (by have hi : h'.next ≤ i := hi; have := hm.nxt; omega)) fun i b _ hb => hb
    · rw [t.h0, hn]
      refine ⟨fun _ h => h, fun _ h => .inl h, fun _ _ => ⟨rfl, rfl, rfl, rfl⟩, fun _ _ _ => rfl, fun i hi q1 q2 => ?_, Nat.le_refl _, hw0, hm.nxt, rfl, rfl, rfl⟩
      have := rel.lt i hi
      omega
    · intro k o t' _ hl; simp [Array.getElem?_replicate] at hl
    · intro t' v _ hv
      rw [t.f0] at hv
      exact ⟨g.at_ t' v hv, g.in_ t' v hv⟩
end
end Go.Proofs.Ytgeelfdgnehdnaa
namespace Go.Proofs.Ytgeelfdgnehdnaa
open Go.RowKit
set_option linter.unusedSimpArgs false
set_option linter.unusedVariables false
noncomputable def FnsOK (P : Program) (C : Cfg) : Prop := ∀ f fn, C.fn f = some fn → P.funcs[f]? = some fn ∧ (∀ args w, (callFunc f args).run P w = .ok (.enter f args) w) ∧ ∀ c, fn.body = some c → codeOK fn.ntmps c = true
theorem argsT_get : ∀ (vs : List V) (i : Nat) (t : Tr V) (k : Nat), (argsT i vs t).get k = if i ≤ k ∧ k < i + vs.length then vs[k - i]? else t.get k
  | [], i, t, k => by simp only [argsT, List.length_nil]; rw [if_neg (by omega)]
  | v :: vs, i, t, k => by
    simp only [argsT]
    rw [argsT_get vs (i + 1) _ k, Tr.get_set]
    simp only [List.length_cons]
    by_cases h : k = i
    · subst h
      rw [if_neg (by omega), if_pos rfl, if_pos (by omega)]; simp
    · by_cases h2 : i + 1 ≤ k ∧ k < i + 1 + vs.length
      · rw [if_pos h2, if_pos (by omega), show k - i = (k - (i + 1)) + 1 by omega]; simp
      · rw [if_neg h2, if_neg h, if_neg (by omega)]
theorem findLabel_ok {N : Nat} : ∀ (c : Code) (l : Nat) (rest : Code), findLabel c l = some rest → codeOK N c = true → codeOK N rest = true
  | .seq a b, l, rest, h, hok => by
    simp only [codeOK, Bool.and_eq_true] at hok
    simp only [findLabel] at h
    split at h
    · rename_i r hr
      cases h
      simp only [codeOK, Bool.and_eq_true]
      exact ⟨findLabel_ok a l r hr hok.1, hok.2⟩
    · exact findLabel_ok b l rest h hok.2
  | .label l', l, rest, h, _ => by
    simp only [findLabel] at h
    split at h
    · cases h; rfl
    · cases h
  | .skip, _, _, h, _ => by simp [findLabel] at h
  | .region _ _ _, _, _, h, _ => by simp [findLabel] at h
  | .cond _ _ _, _, _, h, _ => by simp [findLabel] at h
  | .block _ _, _, _, h, _ => by simp [findLabel] at h
  | .loop _, _, _, h, _ => by simp [findLabel] at h
  | .rangeFunc _ _ _ _, _, _, h, _ => by simp [findLabel] at h
  | .exit _, _, _, h, _ => by simp [findLabel] at h
  | .scope _, _, _, h, _ => by simp [findLabel] at h
  | .goto _, _, _, h, _ => by simp [findLabel] at h
  | .ret, _, _, h, _ => by simp [findLabel] at h
  | .refuse _, _, _, h, _ => by simp [findLabel] at h
theorem setPs_spec {ρ : Env} {D : Nat → Nat → Prop} : ∀ (ps : List Tmp) (vs : List V) (fr : Tr V) (tmps : Array Value), (∀ t v, fr.get t = some v → tmps[t]? = some (conc ρ v) ∧ InD D v) → InDL D vs → (∀ p ∈ ps, p < tmps.size) →
    (∀ t v, (setPs fr ps vs).get t = some v → ((ps.zip (concL ρ vs)).foldl (fun t (p : Tmp × Value) => t.setIfInBounds p.1 p.2) tmps)[t]? = some (conc ρ v) ∧ InD D v) ∧
    ((ps.zip (concL ρ vs)).foldl (fun t (p : Tmp × Value) => t.setIfInBounds p.1 p.2) tmps).size = tmps.size
  | [], _, fr, tmps, h, _, _ => ⟨by simpa [setPs] using h, by simp⟩
  | p :: ps, [], fr, tmps, h, _, _ => ⟨by simpa [setPs, concL] using h, by simp [concL]⟩
  | p :: ps, v :: vs, fr, tmps, h, hv, hp => by
    have ih := setPs_spec (ρ := ρ) (D := D) ps vs (fr.set p (some v)) (tmps.setIfInBounds p (conc ρ v)) (fun t x hx => by
      rw [Tr.get_set] at hx
      rw [Array.getElem?_setIfInBounds]
      by_cases e : t = p
      · subst e
        rw [if_pos rfl] at hx; cases hx
        exact ⟨by simp [hp t (by simp)], hv.1⟩
      · rw [if_neg e] at hx
        rw [if_neg (fun e' => e e'.symm)]
        exact h t x hx) hv.2 (fun q hq => by simp [hp q (by simp [hq])])
    simp only [setPs, concL, List.zip_cons_cons, List.foldl_cons]
    exact ⟨ih.1, by rw [ih.2]; simp⟩
structure SelfM (S : Self) : Prop where
  fn : ∀ f vs h v h', S.fn f vs h = some (v, h') → Mono h h'
  yield : ∀ l vs h v h', S.yield l vs h = some (v, h') → Mono h h'
structure FlowM (F : Flow) : Prop where
  loop : ∀ c st x st', F.loop c st = some (x, st') → Mono st.h st'.h
  scope : ∀ c l st x st', F.scope c l st = some (x, st') → Mono st.h st'.h
section
variable {C : Cfg} {S : Self} {F : Flow}
theorem opM (hS : SelfM S) {o : Oper} {fr : Tr V} {h h' : Heap} {v : V} (ho : opV S C fr h o = some (v, h')) : Mono h h' := by
  unfold opV at ho
  split at ho
  · cases ho; exact Mono.refl _
  · split at ho
    · rename_i r hr
      cases ho
      exact mono_opH hr
    · unfold callV at ho
      split at ho
      · split at ho
        · split at ho
          · split at ho
            · cases ho; exact Mono.refl _
            · cases ho
          · exact hS.fn _ _ _ _ _ ho
        · exact hS.yield _ _ _ _ _ ho
        · cases ho
      · split at ho
        · split at ho
          · split at ho
            · cases ho
            · exact hS.fn _ _ _ _ _ ho
          · cases ho
        · cases ho
      · cases ho
theorem opsM (hS : SelfM S) {ops : Array Oper} : ∀ (l : List Oper) (fr : Tr V) (h : Heap) (fr' : Tr V) (h' : Heap), evalOps S C ops l fr h = some (fr', h') → Mono h h'
  | [], fr, h, fr', h', he => by
    simp only [evalOps, Option.some.injEq, Prod.mk.injEq] at he
    rw [← he.2]; exact Mono.refl _
  | o :: l, fr, h, fr', h', he => by
    simp only [evalOps] at he
    split at he
    · split at he
      · rename_i v h1 ho
        exact (opM hS ho).trans (opsM hS l _ _ _ _ he)
      · cases he
    · exact opsM hS l _ _ _ _ he
    · cases he
theorem stepM (hS : SelfM S) {o : Oper} {fr : Tr V} {h h' : Heap} {v : V} {x : Option Ev} (hs : stepF S C fr h o = some (v, h', x)) : Mono h h' := by
  rcases stepF_cases hs with ⟨_, rfl, _⟩ | ⟨h1, _, ho, rfl, _⟩
  · exact Mono.refl _
  · have := minN_le h.wmin h1.wmin
    exact mono_wmin (opM hS ho) this.1 this.2
theorem flowM (hS : SelfM S) {ops : Array Oper} : ∀ (l : List Oper) (i : Nat) (es : List (Nat × Ev)) (fr : Tr V) (h : Heap) (fr' : Tr V) (h' : Heap), evalFlow S C ops l i es fr h = some (fr', h') → Mono h h'
  | [], _, _, fr, h, fr', h', he => by
    simp only [evalFlow, Option.some.injEq, Prod.mk.injEq] at he
    rw [← he.2]; exact Mono.refl _
  | o :: l, i, es, fr, h, fr', h', he => by
    simp only [evalFlow] at he
    split at he
    · split at he
      · rename_i v h1 x hst
        split at he
        · exact (stepM hS hst).trans (flowM hS l _ _ _ _ _ _ he)
        · cases he
      · rename_i v h1 hst
        exact (stepM hS hst).trans (flowM hS l _ _ _ _ _ _ he)
      · cases he
    · exact flowM hS l _ _ _ _ _ _ he
    · cases he
theorem codeM (hS : SelfM S) (hF : FlowM F) : ∀ (c : Code) (st : St) (x : Exit) (st' : St), evalCode S F C c st = some (x, st') → Mono st.h st'.h
  | .skip, st, x, st', he => by simp only [evalCode, Option.some.injEq, Prod.mk.injEq] at he; rw [← he.2]; exact Mono.refl _
  | .label _, st, x, st', he => by simp only [evalCode, Option.some.injEq, Prod.mk.injEq] at he; rw [← he.2]; exact Mono.refl _
  | .exit _, st, x, st', he => by simp only [evalCode, Option.some.injEq, Prod.mk.injEq] at he; rw [← he.2]; exact Mono.refl _
  | .goto _, st, x, st', he => by simp only [evalCode, Option.some.injEq, Prod.mk.injEq] at he; rw [← he.2]; exact Mono.refl _
  | .ret, st, x, st', he => by simp only [evalCode, Option.some.injEq, Prod.mk.injEq] at he; rw [← he.2]; exact Mono.refl _
  | .refuse _, st, x, st', he => by simp [evalCode] at he
  | .loop c, st, x, st', he => hF.loop c st x st' he
  | .seq c d, st, x, st', he => by
    simp only [evalCode] at he
    split at he
    · rename_i st1 h1
      exact (codeM hS hF c _ _ _ h1).trans (codeM hS hF d _ _ _ he)
    · exact codeM hS hF c _ _ _ he
  | .cond _ c d, st, x, st', he => by
    simp only [evalCode] at he
    split at he
    · exact codeM hS hF c _ _ _ he
    · exact codeM hS hF d _ _ _ he
    · cases he
  | .block _ c, st, x, st', he => by
    simp only [evalCode] at he
    split at he
    · rename_i id' st1 h1
      have := codeM hS hF c _ _ _ h1
      split at he <;> (cases he; exact this)
    · exact codeM hS hF c _ _ _ he
  | .scope c, st, x, st', he => by
    simp only [evalCode] at he
    split at he
    · rename_i l st1 h1
      exact (codeM hS hF c _ _ _ h1).trans (hF.scope _ _ _ _ _ he)
    · exact codeM hS hF c _ _ _ he
  | .region _ ops dr, st, x, st', he => by
    cases dr <;> simp only [evalCode] at he <;> split at he
    · rename_i he1; cases he; exact opsM hS _ _ _ _ _ he1
    · cases he
    · rename_i he1; cases he; exact flowM hS _ _ _ _ _ _ _ he1
    · cases he
  | .rangeFunc _ _ _ _, st, x, st', he => by
    simp only [evalCode] at he
    split at he
    · split at he
      · rename_i u h3 hcall
        exact ((mono_push _ _).trans (mono_push _ _)).trans ((hS.fn _ _ _ _ _ hcall).trans (endRange_mono he))
      · cases he
    · cases he
end
theorem takeAll_mono : ∀ (ds : List Nat) (h h1 : Heap), takeAll ds h = some h1 → Mono h h1
  | [], h, h1, e => by simp only [takeAll, Option.some.injEq] at e; subst e; exact Mono.refl _
  | d :: ds, h, h1, e => by
    simp only [takeAll] at e
    split at e
    · rename_i hg; exact (mono_put hg).trans (takeAll_mono ds _ _ e)
    · cases e
theorem finV_mono {C : Cfg} {fn : Func} {st : St} {v : V} {h' : Heap} (hf : finV C fn st = some (v, h')) : Mono st.h h' := by
  unfold finV at hf
  split at hf
  · cases hf
  · rename_i h1 ht
    have := takeAll_mono _ _ _ ht
    split at hf <;> first | (cases hf; done) | (cases hf; exact this)
theorem runM (C : Cfg) (hK : ∀ f k, C.known f = some k → ∀ vs h v h', k vs h = some (v, h') → Mono h h') : ∀ n, SelfM ⟨runFn C n, runYield C n⟩ ∧ FlowM ⟨runLoop C n, runScope C n⟩
  | 0 => ⟨⟨fun f vs h v h' he => by simp [runFn] at he, fun l vs h v h' he => by simp [runYield] at he⟩, ⟨fun c st x st' he => by simp [runLoop] at he, fun c l st x st' he => by simp [runScope] at he⟩⟩
  | n + 1 => by
    obtain ⟨hS, hF⟩ := runM C hK n
    have cm := codeM (C := C) hS hF
    refine ⟨⟨fun f vs h v h' he => ?_, fun l vs h v h' he => ?_⟩, ⟨fun c st x st' he => ?_, fun c l st x st' he => ?_⟩⟩
    · simp only [runFn] at he
      split at he
      · rename_i k hk; exact hK f k hk _ _ _ _ he
      · split at he
        · cases he
        · split at he
          · split at he
            · rename_i st h1; exact (cm _ _ _ _ h1).trans (finV_mono he)
            · rename_i st h1; exact (cm _ _ _ _ h1).trans (finV_mono he)
            · cases he
          · cases he
    · simp only [runYield] at he
      split at he
      · split at he
        · cases he
        · split at he
          · rename_i st1 h1
            split at he
            · rename_i hget1
              split at he
              · rename_i x st2 h2
                split at he
                · rename_i hget2
                  have m := ((cm _ _ _ _ h1).trans (mono_put hget1)).trans (cm _ _ _ _ h2)
                  split at he <;> first | (cases he; done) | (cases he; exact m.trans (mono_put hget2))
                · cases he
              · cases he
            · cases he
          · cases he
      · cases he
    · simp only [runLoop] at he
      split at he
      · rename_i st1 h1; exact (cm _ _ _ _ h1).trans (hF.loop _ _ _ _ he)
      · exact cm _ _ _ _ he
    · simp only [runScope] at he
      split at he
      · split at he
        · rename_i l' st1 h1; exact (cm _ _ _ _ h1).trans (hF.scope _ _ _ _ _ he)
        · exact cm _ _ _ _ he
      · cases he
section
variable {P : Program} {C : Cfg} {s0 : World} {U N : Nat} {D : Nat → Prop} {ρ : Env} {h h' : Heap} {w : World} {a : Act}
theorem leaves_take {fn : Func} {tmps : Array Value} {R : Ending → World → Prop} : ∀ (ds : List Nat) (h h1 : Heap) (w : World), takeAll ds h = some h1 → h1.next ≤ U → Rel s0 U D ρ h w → (∀ d ∈ ds, D d) →
    (∀ w', Rel s0 U D ρ h1 w' → Nxt D ρ h w D ρ h1 w' → LeavesInM Fence.wide 0 P fn tmps R [] .returning w') → LeavesInM Fence.wide 0 P fn tmps R (ds.map (mkD ρ)) .returning w
  | [], h, h1, w, e, _, rel, _, k => by
    simp only [takeAll, Option.some.injEq] at e
    subst e
    exact k w rel (Nxt.refl _ _ _ _)
  | d :: ds, h, h1, w, e, hU, rel, hd, k => by
    simp only [takeAll] at e
    split at e
    · rename_i hg
      have hD := hd d (by simp)
      obtain ⟨o, q1, q2⟩ := rel.has d _ hD hg
      have q2 : o = .deferred (some []) := q2
      subst q2
      refine ⟨by simp, .inl ⟨ρ.b d, _, rfl, run_takeDeferred q1, ?_⟩⟩
      have ht := turned_putObj (w := w) (b := ρ.b d) (.deferred none) (Array.getElem?_eq_some_iff.1 q1).1
      obtain ⟨r2, n2⟩ := rel.put (b' := .dfr true) hD hg rfl rfl ht rfl trivial
      have hU2 := Nat.le_trans (takeAll_mono ds _ _ e).nxt hU
      exact leaves_take ds _ h1 _ e hU r2 (fun x hx => hd x (by simp [hx])) fun w' r3 n3 => k w' r3 (n2.trans rel.lt hU n3)
    · cases e
theorem resV_spec (hC : CfgOK P C) {fr : Tr V} (g : FrE C D ρ fr a) (rel : Rel s0 U D ρ h w) {r : ResultVar} {v : V} (hr : resV C fr h r = some v) : resRun P a.tmps w r (conc ρ v) ∧ InD (DD D ρ) v := by
  cases r with
  | tmp t =>
    have := g.at_ t v hr
    exact ⟨by simp [resRun, Array.getD_eq_getD_getElem?, this], g.in_ t v hr⟩
  | cell p T =>
    simp only [resV] at hr
    split at hr
    · rename_i b off i hp hT
      split at hr
      · rename_i u hu
        have hb := g.in_ p _ hp
        have := g.at_ p _ hp
        obtain ⟨l1, l2⟩ := load_sound hC rel hT hb.1 hu hr
        exact ⟨⟨_, by simp [Array.getD_eq_getD_getElem?, this, conc], l1⟩, l2⟩
      · cases hr
    · cases hr
theorem resL_spec (hC : CfgOK P C) {fr : Tr V} (g : FrE C D ρ fr a) (rel : Rel s0 U D ρ h w) : ∀ (l : List ResultVar) (vs : List V), resL C fr h l = some vs → All2 (resRun P a.tmps w) l (concL ρ vs) ∧ InDL (DD D ρ) vs
  | [], vs, e => by
    simp only [resL, Option.some.injEq] at e
    subst e
    exact ⟨trivial, trivial⟩
  | r :: l, vs, e => by
    simp only [resL] at e
    split at e
    · rename_i v vs' h1 h2
      cases e
      obtain ⟨q1, q2⟩ := resV_spec hC g rel h1
      obtain ⟨q3, q4⟩ := resL_spec hC g rel l vs' h2
      exact ⟨⟨q1, q3⟩, q2, q4⟩
    · cases e
theorem concL_length (ρ : Env) (l : List V) : (concL ρ l).length = l.length := by rw [concL_eq]; simp
theorem fin_sound (hC : CfgOK P C) {fn : Func} {st : St} {v : V} (hf : finV C fn st = some (v, h')) (hU : h'.next ≤ U) {r : Option Nat} (g : StR C s0 U N r [] D ρ st a w) {R : Ending → World → Prop} (k : ∀ w', Rel s0 U D ρ h' w' → Nxt D ρ st.h w D ρ h' w' → InD (DD D ρ) v → R (.returned (conc ρ v)) w') :
    LeavesInM Fence.wide 0 P fn a.tmps R a.defers .returning w := by
  unfold finV at hf
  split at hf
  · cases hf
  · rename_i h1 ht
    rw [g.defs, List.append_nil]
    split at hf
    · rename_i u hr
      cases hf
      refine leaves_take _ _ _ _ ht hU g.rel g.din fun w' r' n' => ?_
      have g' : FrE C D ρ st.fr a := g.fr
      obtain ⟨q1, q2⟩ := resL_spec hC g' r' _ _ hr
      have hrl : ∃ rv, fn.results.toList = [rv] := by
        cases hl : fn.results.toList with
        | nil => rw [hl] at q1; exact q1.elim
        | cons rv l => cases l with
          | nil => exact ⟨rv, rfl⟩
          | cons _ _ => rw [hl] at q1; exact q1.2.elim
      obtain ⟨rv, hrv⟩ := hrl
      rw [hrv] at q1
      exact ⟨_, results1 (by apply Array.toList_inj.1; simpa using hrv) q1.1, k w' r' n' q2.1⟩
    · rename_i us hne hr
      cases hf
      refine leaves_take _ _ _ _ ht hU g.rel g.din fun w' r' n' => ?_
      obtain ⟨q1, q2⟩ := resL_spec hC g.fr r' _ _ hr
      refine ⟨_, resultsN (rvs := fn.results.toList) (by simp) (fun e => ?_) q1, by
        have := k w' r' n' q2
        simpa [conc] using this⟩
      rw [concL_length] at e
      cases us with
      | nil => cases e
      | cons u us => cases us with
        | nil => exact hne u rfl
        | cons _ _ => cases e
    · cases hf
end
noncomputable def KnownFn (P : Program) (C : Cfg) (f : FuncId) (k : List V → Heap → Option (V × Heap)) : Prop := ∀ vs h v h', k vs h = some (v, h') →
  Mono h h' ∧ (∀ args w, (callFunc f args).run P w = .ok (.enter f args) w) ∧ ∀ s0 U D ρ w, h'.next ≤ U → GlobOK C (DD D ρ) ρ → InDL (DD D ρ) vs → Rel s0 U D ρ h w → Calls P f (concL ρ vs).toArray w (FnPost s0 U D ρ h w v h')
noncomputable def KnownOK (P : Program) (C : Cfg) : Prop := ∀ f k, C.known f = some k → KnownFn P C f k
structure RunOK (P : Program) (C : Cfg) (n : Nat) : Prop where
  self : SelfOK P C ⟨runFn C n, runYield C n⟩
  loop : ∀ N c, codeOK N c = true → CodeSound P C N (runLoop C n c) (fun r Q a w => Code.roundsIn (FF r) 0 P c Q n a w)
  scope : ∀ N c l, codeOK N c = true → CodeSound P C N (runScope C n c l) (fun r Q a w => scopeIn (FF r) 0 P c Q n l a w)
section
variable {P : Program} {C : Cfg}
theorem run_code (hmx : P.follows .mixedOrders = true) (hC : CfgOK P C) {n : Nat} (ih : RunOK P C n) {N : Nat} {c : Code} (hok : codeOK N c = true) :
    CodeSound P C N (evalCode ⟨runFn C n, runYield C n⟩ ⟨runLoop C n, runScope C n⟩ C c) (fun r Q a w => c.wpIn (FF r) 0 P Q a w) :=
  code_sound hC ih.self ⟨n, ih.loop, ih.scope⟩ (region_sound hmx hC ih.self) c hok
theorem run_loop (hmx : P.follows .mixedOrders = true) (hC : CfgOK P C) {n : Nat} (ih : RunOK P C n) (N : Nat) (c : Code) (hok : codeOK N c = true) : CodeSound P C N (runLoop C (n + 1) c) (fun r Q a w => Code.roundsIn (FF r) 0 P c Q (n + 1) a w) := by
  intro st x st' he
  have cs := run_code hmx hC ih hok
  simp only [runLoop] at he
  split at he
  · rename_i st1 h1
    obtain ⟨m1, k1⟩ := cs _ _ _ h1
    obtain ⟨m2, k2⟩ := ih.loop N c hok _ _ _ he
    refine ⟨m1.trans m2, fun s0 U r tl D ρ a w Q hU g k => k1 s0 U r tl D ρ a w _ (Nat.le_trans m2.nxt hU) g fun D1 ρ1 a1 w1 g1 n1 => ?_⟩
    exact k2 s0 U r tl D1 ρ1 a1 w1 Q hU g1 fun D2 ρ2 a2 w2 g2 n2 => k D2 ρ2 a2 w2 g2 (n1.trans g.rel.lt hU n2)
  · rename_i hne
    obtain ⟨m1, k1⟩ := cs _ _ _ he
    refine ⟨m1, fun s0 U r tl D ρ a w Q hU g k => k1 s0 U r tl D ρ a w _ hU g fun D1 ρ1 a1 w1 g1 n1 => ?_⟩
    have hq := k D1 ρ1 a1 w1 g1 n1
    cases x with
    | normal => exact absurd he (hne st')
    | _ => exact hq
theorem run_scope (hmx : P.follows .mixedOrders = true) (hC : CfgOK P C) {n : Nat} (ih : RunOK P C n) (N : Nat) (c : Code) (l : Nat) (hok : codeOK N c = true) : CodeSound P C N (runScope C (n + 1) c l) (fun r Q a w => scopeIn (FF r) 0 P c Q (n + 1) l a w) := by
  intro st x st' he
  simp only [runScope] at he
  split at he
  · rename_i rest hrest
    have cs := run_code hmx hC ih (findLabel_ok c l rest hrest hok)
    split at he
    · rename_i l' st1 h1
      obtain ⟨m1, k1⟩ := cs _ _ _ h1
      obtain ⟨m2, k2⟩ := ih.scope N c l' hok _ _ _ he
      refine ⟨m1.trans m2, fun s0 U r tl D ρ a w Q hU g k => ⟨rest, hrest, k1 s0 U r tl D ρ a w _ (Nat.le_trans m2.nxt hU) g fun D1 ρ1 a1 w1 g1 n1 => ?_⟩⟩
      exact k2 s0 U r tl D1 ρ1 a1 w1 Q hU g1 fun D2 ρ2 a2 w2 g2 n2 => k D2 ρ2 a2 w2 g2 (n1.trans g.rel.lt hU n2)
    · rename_i hne
      obtain ⟨m1, k1⟩ := cs _ _ _ he
      refine ⟨m1, fun s0 U r tl D ρ a w Q hU g k => ⟨rest, hrest, k1 s0 U r tl D ρ a w _ hU g fun D1 ρ1 a1 w1 g1 n1 => ?_⟩⟩
      have hq := k D1 ρ1 a1 w1 g1 n1
      cases x with
      | goto l => exact absurd he (hne l st')
      | _ => exact hq
  · cases he
theorem run_fn (hmx : P.follows .mixedOrders = true) (hC : CfgOK P C) (hF : FnsOK P C) (hK : KnownOK P C) {n : Nat} (ih : RunOK P C n) {f : FuncId} {vs : List V} {h : Heap} {v : V} {h' : Heap} (hr : runFn C (n + 1) f vs h = some (v, h')) :
    Mono h h' ∧ (∀ args w, (callFunc f args).run P w = .ok (.enter f args) w) ∧ ∀ s0 U D ρ w, h'.next ≤ U → GlobOK C (DD D ρ) ρ → InDL (DD D ρ) vs → Rel s0 U D ρ h w → Calls P f (concL ρ vs).toArray w (FnPost s0 U D ρ h w v h') := by
  simp only [runFn] at hr
  split at hr
  · rename_i k hk
    exact hK f k hk _ _ _ _ hr
  split at hr
  · cases hr
  · rename_i fn hfn
    obtain ⟨hf, he, hok⟩ := hF f fn hfn
    split at hr
    · rename_i c hb hle
      have hle := Nat.le_of_ble_eq_true hle
      have cs := run_code hmx hC ih (hok c hb)
      have key : ∀ x st, (x = .normal ∨ x = .ret) → evalCode ⟨runFn C n, runYield C n⟩ ⟨runLoop C n, runScope C n⟩ C c ⟨argsT 0 vs .nil, h, [], false⟩ = some (x, st) → finV C fn st = some (v, h') →
          Mono h h' ∧ ∀ s0 U D ρ w, h'.next ≤ U → GlobOK C (DD D ρ) ρ → InDL (DD D ρ) vs → Rel s0 U D ρ h w → Calls P f (concL ρ vs).toArray w (FnPost s0 U D ρ h w v h') := fun x st hx h1 h2 => by
        obtain ⟨m1, k1⟩ := cs _ _ _ h1
        have m2 := finV_mono h2
        refine ⟨m1.trans m2, fun s0 U D ρ w hU gl hin rel => ?_⟩
        refine callsIn_wide.1 (callsIn_of_wp_marks (F := Fence.wide) (n := 0) hf hb trivial ?_)
        have harg : ∀ t u, (argsT 0 vs .nil).get t = some u → ((concL ρ vs).toArray ++ Array.replicate (fn.ntmps - (concL ρ vs).toArray.size) undef)[t]? = some (conc ρ u) ∧ InD (DD D ρ) u := fun t u hu => by
          rw [argsT_get] at hu
          split at hu
          · rename_i hlt
            simp only [Nat.sub_zero, Nat.zero_add] at hu hlt
            refine ⟨?_, InDL.at_ hin hu⟩
            rw [Array.getElem?_append_left (by simp [concL_length]; exact hlt.2), concL_eq]
            simp [hu]
          · simp [Tr.get_nil] at hu
        refine k1 s0 U none [] D ρ _ w _ (Nat.le_trans m2.nxt hU) ⟨⟨⟨fun t u hu => (harg t u hu).1, fun t u hu => (harg t u hu).2, gl⟩⟩, rel, ?_, rfl, (fun d hd => by cases hd), rfl⟩ fun D1 ρ1 a1 w1 g1 n1 => ?_
        · simp only [Array.size_append, Array.size_replicate, List.size_toArray, concL_length]; omega
        · have fin := fin_sound (P := P) hC h2 hU g1 (R := FnPost s0 U D ρ h w v h') fun w' r' n' i' => ⟨D1, ρ1, rfl, r', n1.trans rel.lt hU n', i'⟩
          rcases hx with rfl | rfl <;> exact fin
      split at hr
      · rename_i st h1
        obtain ⟨q1, q2⟩ := key _ _ (.inl rfl) h1 hr
        exact ⟨q1, he, q2⟩
      · rename_i st h1
        obtain ⟨q1, q2⟩ := key _ _ (.inr rfl) h1 hr
        exact ⟨q1, he, q2⟩
      · cases hr
    · cases hr
theorem run_yld (hmx : P.follows .mixedOrders = true) (hC : CfgOK P C) {n : Nat} (ih : RunOK P C n) {l : Nat} {vs : List V} {h : Heap} {v : V} {h' : Heap} (hr : runYield C (n + 1) l vs h = some (v, h')) :
    ∀ s0 U D ρ w, h'.next ≤ U → GlobOK C (DD D ρ) ρ → D l → InDL (DD D ρ) vs → Rel s0 U D ρ h w → YieldAt Fence.wide 0 P (ρ.l l).1 (concL ρ vs).toArray w (FnPost s0 U D ρ h w v h') := by
  simp only [runYield] at hr
  split at hr
  · rename_i fr ps asg bd d hget
    split at hr
    · cases hr
    · rename_i hlen
      have hlen : vs.length = ps.size := Nat.eq_of_beq_eq_true hlen
      split at hr
      · rename_i st1 h1
        split at hr
        · rename_i fr1 ps1 asg1 bd1 d1 hget1
          split at hr
          · rename_i x st2 h2
            split at hr
            · rename_i fr2 ps2 asg2 bd2 d2 hget2
              -- the end of a round
              obtain ⟨b, stt, pe, hb, hst, hv, hh⟩ : ∃ (b : Bool) (stt : LoopState) (pe : Option Code), (pe.isNone = b ∧ stt = (if pe.isNone then .ready else .done)) ∧ ((x = .normal ∧ pe = none) ∨ (x = .ret ∧ pe = some .ret) ∨ (∃ id, x = .exit id ∧ pe = some (.exit id)) ∨ (∃ id, x = .goto id ∧ pe = some (.goto id))) ∧ v = .bool b ∧ h' = st2.h.put l (.loop stt pe fr2 ps2 asg2 bd2 d2) := by
                split at hr
                · cases hr; exact ⟨true, .ready, none, ⟨rfl, rfl⟩, .inl ⟨rfl, rfl⟩, rfl, rfl⟩
                · cases hr; exact ⟨false, .done, _, ⟨rfl, rfl⟩, .inr (.inl ⟨rfl, rfl⟩), rfl, rfl⟩
                · cases hr; exact ⟨false, .done, _, ⟨rfl, rfl⟩, .inr (.inr (.inl ⟨_, rfl, rfl⟩)), rfl, rfl⟩
                · cases hr; exact ⟨false, .done, _, ⟨rfl, rfl⟩, .inr (.inr (.inr ⟨_, rfl, rfl⟩)), rfl, rfl⟩
                · cases hr
              subst hv; subst hh
              clear hr
              obtain ⟨hb1, hb2⟩ := hb
              intro s0 U D ρ w hU gl hl hin rel
              have hU2 : st2.h.next ≤ U := hU
              obtain ⟨o, q1, q2⟩ := rel.has l _ hl hget
              obtain ⟨fnM, tmps, rfl, qt, ql, qp, qa, qb⟩ := q2
              have hcl := rel.clo l _ hl hget
              have hlh := rel.blt hget
              have hy := run_yield (P := P) (args := (concL ρ vs).toArray) q1 (by simp [concL_length, hlen])
              rw [ql]
              refine ⟨fnM, _, asg, bd, hy, roundIn_FF (r := none) (n := 0) (roundIn_of_wpIn (F := Fence.wide) trivial ?_)⟩
              clear hy
              obtain ⟨g1, g2⟩ := setPs_spec (ρ := ρ) (D := DD D ρ) ps.toList vs fr tmps (fun t u hu => ⟨qt t u hu, hcl.1 t u hu⟩) hin qp
              have hT : (ps.zip (concL ρ vs).toArray).foldl (fun tmps (t, a) => tmps.setIfInBounds t a) tmps = (ps.toList.zip (concL ρ vs)).foldl (fun t (p : Tmp × Value) => t.setIfInBounds p.1 p.2) tmps := by
                rw [← Array.foldl_toList, Array.toList_zip]
              simp only [hT]
              obtain ⟨m1, k1⟩ := run_code hmx hC ih qa _ _ _ h1
              obtain ⟨m2, k2⟩ := run_code hmx hC ih qb _ _ _ h2
              have hU1 : st1.h.next ≤ U := Nat.le_trans m2.nxt hU2
              refine k1 s0 U (some (ρ.b l)) [] D ρ _ w _ hU1 ⟨⟨⟨fun t u hu => (g1 t u hu).1, fun t u hu => (g1 t u hu).2, gl⟩⟩, rel, g2, rfl, (fun d hd => by cases hd), rfl⟩ fun D1 ρ1 a1 w1 s1 n1 => ?_
              have hl1 : D1 l := n1.sub l hl
              have eb1 : ρ1.b l = ρ.b l := (n1.env l (.inl hlh)).1
              obtain ⟨o1, p1, p2⟩ := s1.rel.has l _ hl1 hget1
              obtain ⟨fn1, tmps1, rfl, pt, pl, pp, pa, pb⟩ := p2
              have hcl1 := s1.rel.clo l _ hl1 hget1
              have hlh1 := s1.rel.blt hget1
              have p1' := p1
              rw [eb1] at p1'
              refine ⟨_, run_beginRound p1' rfl, ?_⟩
              have ht := turned_putObj (w := w1) (b := ρ1.b l) (.loop { state := .busy, pending := none, fn := fn1, tmps := tmps1, params := ps1, assign := asg1, body := bd1, defers := ρ1.b d1 }) (Array.getElem?_eq_some_iff.1 p1).1
              obtain ⟨r2, n2⟩ := s1.rel.put (b' := .loop .busy none fr1 ps1 asg1 bd1 d1) hl1 hget1 rfl rfl ht ⟨fn1, tmps1, rfl, pt, pl, pp, pa, pb⟩ hcl1
              rw [eb1] at r2 n2
              have n12 := n1.trans rel.lt (by exact hU1) n2
              refine k2 s0 U (some (ρ.b l)) [] D1 ρ1 a1 _ _ hU2 (s1.next hU1 n2 r2) fun D3 ρ3 a3 w3 s3 n3 => ?_
              have hl3 : D3 l := n3.sub l hl1
              have eb3 : ρ3.b l = ρ.b l := ((n3.env l (.inl hlh1)).1).trans eb1
              obtain ⟨o3, t1, t2⟩ := s3.rel.has l _ hl3 hget2
              obtain ⟨fn3, tmps3, rfl, tt, tl, tp, ta, tb⟩ := t2
              have hcl3 := s3.rel.clo l _ hl3 hget2
              have t1' := t1
              rw [eb3] at t1'
              have ht3 := turned_putObj (w := w3) (b := ρ3.b l) (.loop { state := stt, pending := pe, fn := fn3, tmps := tmps3, params := ps2, assign := asg2, body := bd2, defers := ρ3.b d2 }) (Array.getElem?_eq_some_iff.1 t1).1
              obtain ⟨r4, n4⟩ := s3.rel.put (b' := .loop stt pe fr2 ps2 asg2 bd2 d2) hl3 hget2 rfl rfl ht3 ⟨fn3, tmps3, rfl, tt, tl, tp, ta, tb⟩ hcl3
              rw [eb3] at r4 n4
              have n14 := (n12.trans rel.lt hU2 n3).trans rel.lt hU n4
              have hrun := run_endRound (P := P) pe t1'
              have fin : ∃ v w', (Instr.endRound (ρ.b l) pe).run P w3 = .ok v w' ∧ FnPost s0 U D ρ h w (.bool b) (st2.h.put l (.loop stt pe fr2 ps2 asg2 bd2 d2)) (.returned v) w' := by
                refine ⟨_, _, hrun, D3, ρ3, ?_, ?_, ?_, trivial⟩
                · rw [hb1]; rfl
                · rw [← hb2]; exact r4
                · rw [← hb2]; exact n14
              rcases hst with ⟨rfl, rfl⟩ | ⟨rfl, rfl⟩ | ⟨id, rfl, rfl⟩ | ⟨id, rfl, rfl⟩ <;> exact fin
            · cases hr
          · cases hr
        · cases hr
      · cases hr
  · cases hr
theorem run_ok (hmx : P.follows .mixedOrders = true) (hC : CfgOK P C) (hF : FnsOK P C) (hK : KnownOK P C) : ∀ n, RunOK P C n
  | 0 => ⟨⟨(runM C (fun f k hk vs h v h' he => (hK f k hk vs h v h' he).1) 0).1.fn, fun f vs h v h' he => by simp [runFn] at he, fun f vs h v h' he => by simp [runFn] at he, (runM C (fun f k hk vs h v h' he => (hK f k hk vs h v h' he).1) 0).1.yield, fun l vs h v h' he => by simp [runYield] at he⟩,
      fun N c _ st x st' he => by simp [runLoop] at he, fun N c l _ st x st' he => by simp [runScope] at he⟩
  | n + 1 => by
    have ih := run_ok hmx hC hF hK n
    have m := runM C (fun f k hk vs h v h' he => (hK f k hk vs h v h' he).1) (n + 1)
    exact ⟨⟨m.1.fn, fun f vs h v h' he => (run_fn hmx hC hF hK ih he).2.1, fun f vs h v h' he => (run_fn hmx hC hF hK ih he).2.2, m.1.yield, fun l vs h v h' he => run_yld hmx hC ih he⟩,
      run_loop hmx hC ih, run_scope hmx hC ih⟩
theorem run_calls (hmx : P.follows .mixedOrders = true) (hC : CfgOK P C) (hF : FnsOK P C) (hK : KnownOK P C) {n : Nat} {f : FuncId} {vs : List V} {h : Heap} {v : V} {h' : Heap} (hr : runFn C n f vs h = some (v, h')) {D : Nat → Prop} {ρ : Env} {w : World} (gl : GlobOK C (DD D ρ) ρ) (hin : InDL (DD D ρ) vs) (rel : Rel w h'.next D ρ h w) :
    Calls P f (concL ρ vs).toArray w fun e w' => ∃ D' ρ', e = .returned (conc ρ' v) ∧ Below w.heap.size w w' ∧ Rel w h'.next D' ρ' h' w' ∧ Nxt D ρ h w D' ρ' h' w' :=
  ((run_ok hmx hC hF hK n).self.fn f vs h v h' hr w h'.next D ρ w (Nat.le_refl _) gl hin rel).mono fun e w' => by
    rintro ⟨D', ρ', rfl, q1, q2, _⟩
    exact ⟨D', ρ', rfl, q1.base, q1, q2⟩
end
end Go.Proofs.Ytgeelfdgnehdnaa
namespace Go.Proofs.Ytgeelfdgnehdnaa
open Go.RowKit
set_option linter.unusedSimpArgs false
set_option linter.unusedVariables false
mutual
noncomputable def bare : V → Bool
  | .ptr _ _ => false
  | .sl _ _ _ _ _ _ => false
  | .map _ => false
  | .yield _ => false
  | .fn _ a c => bareL a && bareL c
  | .iface _ v => bare v
  | .agg _ l => bareL l
  | .arr _ _ l => bareL l
  | .tup l => bareL l
  | .undef => true
  | .bool _ => true
  | .int _ _ => true
  | .str _ => true
  | .nilp => true
  | .nils => true
  | .nilm => true
  | .nilf => true
  | .nili => true
noncomputable def bareL : List V → Bool
  | [] => true
  | v :: l => bare v && bareL l
end
mutual
theorem bare_in {D : Nat → Nat → Prop} : ∀ {v : V}, bare v = true → InD D v
  | .ptr _ _, h => by simp [bare] at h
  | .sl _ _ _ _ _ _, h => by simp [bare] at h
  | .map _, h => by simp [bare] at h
  | .yield _, h => by simp [bare] at h
  | .fn _ a c, h => by simp only [bare, Bool.and_eq_true] at h; exact ⟨bareL_in h.1, bareL_in h.2⟩
  | .iface _ v, h => bare_in (v := v) h
  | .agg _ l, h => bareL_in (l := l) h
  | .arr _ _ l, h => bareL_in (l := l) h
  | .tup l, h => bareL_in (l := l) h
  | .undef, _ => trivial
  | .bool _, _ => trivial
  | .int _ _, _ => trivial
  | .str _, _ => trivial
  | .nilp, _ => trivial
  | .nils, _ => trivial
  | .nilm, _ => trivial
  | .nilf, _ => trivial
  | .nili, _ => trivial
theorem bareL_in {D : Nat → Nat → Prop} : ∀ {l : List V}, bareL l = true → InDL D l
  | [], _ => trivial
  | v :: l, h => by simp only [bareL, Bool.and_eq_true] at h; exact ⟨bare_in h.1, bareL_in h.2⟩
end
theorem zin_of {v : V} (h : bare v = true) : InD (fun _ _ => False) v := bare_in h
theorem other_of {P : Program} {t : TypeId} (h : (P.underlying t).map (fun d => match d with | .struct _ => false | .array _ _ => false | .interface _ => false | _ => true) = some true) : TyD.Is P t .other := by
  unfold TyD.Is
  cases hu : P.underlying t with
  | none => rw [hu] at h; cases h
  | some d => rw [hu] at h; cases d <;> simp_all
theorem iface_of {P : Program} {t : TypeId} (h : (P.underlying t).map (fun d => match d with | .interface _ => true | _ => false) = some true) : TyD.Is P t .iface := by
  unfold TyD.Is
  cases hu : P.underlying t with
  | none => rw [hu] at h; cases h
  | some d => rw [hu] at h; cases d <;> simp_all
structure FnOK (P : Program) (f : FuncId) (fn : Func) : Prop where
  at_ : P.funcs[f]? = some fn
  ent : ∀ args w, (callFunc f args).run P w = .ok (.enter f args) w
  ok : (match fn.body with | some c => codeOK fn.ntmps c | none => true) = true
theorem fnsOK_of {P : Program} {C : Cfg} (h : ∀ f fn, C.fn f = some fn → FnOK P f fn) : FnsOK P C := fun f fn hf => by
  obtain ⟨h1, h2, h3⟩ := h f fn hf
  refine ⟨h1, h2, fun c hc => ?_⟩
  rw [hc] at h3
  exact h3
noncomputable def ExtOK (P : Program) (f : FuncId) (e : List V → Option V) : Prop := ∀ ρ vs v, e vs = some v → (∀ w, (callFunc f (concL ρ vs).toArray).run P w = .ok (.value (conc ρ v)) w) ∧ ∀ D, InDL D vs → InD D v
theorem add64_ok {P : Program} {f : FuncId} (hrun : ∀ args w, (callFunc f args).run P w = ((add64Entry args).run P w).andThen fun v w' => .ok (.value v) w') : ExtOK P f add64V := by
  intro ρ vs v h
  unfold add64V at h
  split at h
  · rename_i x y c
    split at h
    · rename_i hc
      have hc := Nat.le_of_ble_eq_true hc
      cases h
      refine ⟨fun w => ?_, fun D _ => ⟨trivial, trivial, trivial⟩⟩
      rw [hrun]
      simp only [concL, conc]
      rw [run_add64 _ _ _ (by simp) (by simp) (by simp) (by simp only [Int.ofNat_eq_natCast]; omega)]
      simp only [Result.andThen]
      congr 4
    · cases h
  · cases h
noncomputable def rho0 (K : Nat) : Env := ⟨fun i => i, fun _ => 0, fun _ => K, fun i => (i, none)⟩
noncomputable def mtLook : List (String × FuncId) → String → Option FuncId
  | [], _ => none
  | p :: l, m => match decide (p.1 = m) with
    | true => some p.2
    | false => mtLook l m
noncomputable def MtOK (P : Program) (t : TypeId) (l : List (String × FuncId)) : Prop := ∀ m f, mtLook l m = some f → ∀ v args w, (callMethod (.iface t v) m args).run P w = (callFunc f (#[v] ++ args)).run P w
noncomputable def mtOf (T : Tr (List (String × FuncId))) (t : TypeId) (m : String) : Option FuncId := match T.get t with
  | some l => mtLook l m
  | none => none
theorem mtOf_ok {P : Program} {T : Tr (List (String × FuncId))} (h : ∀ t l, T.get t = some l → MtOK P t l) (t : TypeId) (m : String) (f : FuncId) (hm : mtOf T t m = some f) (v : Value) (args : Array Value) (w : World) : (callMethod (.iface t v) m args).run P w = (callFunc f (#[v] ++ args)).run P w := by
  unfold mtOf at hm
  split at hm
  · rename_i l hl; exact h t l hl m f hm v args w
  · cases hm
theorem known_none {P : Program} {C : Cfg} (h : ∀ f, C.known f = none) : KnownOK P C := fun f k hk => by rw [h f] at hk; cases hk
end Go.Proofs.Ytgeelfdgnehdnaa
namespace Go.Proofs.Ytgeelfdgnehdnaa
def ti1 : TyI := ⟨1, 8, .nilf, .other⟩
def ti2 : TyI := ⟨1, 8, .int .i64 0, .int .i64⟩
def ti3 : TyI := ⟨1, 8, .int .i64 0, .int .i64⟩
def ti4 : TyI := ⟨1, 1, .bool false, .bool⟩
def ti5 : TyI := ⟨1, 1, .int .u8 0, .int .u8⟩
def ti6 : TyI := ⟨1, 1, .int .u8 0, .int .u8⟩
def ti7 : TyI := ⟨4, 24, .agg 4 [.int .i64 0, .int .i64 0, .bool false, .int .u8 0], .struct [(2, 0), (3, 1), (4, 2), (6, 3)]⟩
def ti8 : TyI := ⟨4, 24, .agg 4 [.int .i64 0, .int .i64 0, .bool false, .int .u8 0], .struct [(2, 0), (3, 1), (4, 2), (6, 3)]⟩
def ti9 : TyI := ⟨1, 16, .str [], .str⟩
def ti10 : TyI := ⟨1, 16, .str [], .str⟩
def ti11 : TyI := ⟨1, 16, .str [], .str⟩
def ti12 : TyI := ⟨1, 8, .int .u64 0, .int .u64⟩
def ti15 : TyI := ⟨1, 8, .nilp, .ptr⟩
def ti16 : TyI := ⟨1, 8, .nilp, .ptr⟩
def ti17 : TyI := ⟨1, 8, .nilp, .ptr⟩
def ti20 : TyI := ⟨1, 16, .nili, .iface⟩
def ti21 : TyI := ⟨1, 4, .int .i32 0, .int .i32⟩
def ti22 : TyI := ⟨1, 24, .nils, .slice 70⟩
def ti23 : TyI := ⟨2, 32, .agg 2 [.nils, .int .i64 0], .struct [(22, 0), (3, 1)]⟩
def ti24 : TyI := ⟨2, 32, .agg 2 [.nils, .int .i64 0], .struct [(22, 0), (3, 1)]⟩
def ti25 : TyI := ⟨32, 32, .arr 32 1 (List.replicate 32 (.int .u8 0)), .arr 32 5⟩
def ti26 : TyI := ⟨32, 32, .arr 32 1 (List.replicate 32 (.int .u8 0)), .arr 32 5⟩
def ti27 : TyI := ⟨1, 8, .int .u64 0, .int .u64⟩
def ti28 : TyI := ⟨2, 16, .agg 2 [.int .u64 0, .int .u64 0], .struct [(27, 0), (27, 1)]⟩
def ti29 : TyI := ⟨2, 16, .agg 2 [.int .u64 0, .int .u64 0], .struct [(27, 0), (27, 1)]⟩
def ti30 : TyI := ⟨1, 8, .nilf, .other⟩
def ti31 : TyI := ⟨1, 8, .nilf, .other⟩
def ti32 : TyI := ⟨1, 8, .int .i64 0, .int .i64⟩
def ti34 : TyI := ⟨1, 8, .nilf, .other⟩
def ti35 : TyI := ⟨1, 8, .nilf, .other⟩
def ti37 : TyI := ⟨1, 8, .nilf, .other⟩
def ti38 : TyI := ⟨1, 24, .nils, .slice 5⟩
def ti40 : TyI := ⟨1, 8, .nilf, .other⟩
def ti41 : TyI := ⟨1, 8, .nilf, .other⟩
def ti42 : TyI := ⟨1, 8, .nilf, .other⟩
def ti44 : TyI := ⟨1, 8, .nilf, .other⟩
def ti45 : TyI := ⟨1, 24, .nils, .slice 88⟩
def ti47 : TyI := ⟨1, 8, .nilf, .other⟩
def ti49 : TyI := ⟨1, 8, .nilf, .other⟩
def ti51 : TyI := ⟨1, 8, .nilf, .other⟩
def ti52 : TyI := ⟨1, 8, .nilf, .other⟩
def ti53 : TyI := ⟨1, 8, .nilf, .other⟩
def ti54 : TyI := ⟨1, 8, .nilf, .other⟩
def ti55 : TyI := ⟨1, 8, .nilf, .other⟩
def ti56 : TyI := ⟨1, 8, .nilf, .other⟩
def ti57 : TyI := ⟨1, 8, .nilf, .other⟩
def ti58 : TyI := ⟨34, 48, .agg 34 [.int .u64 0, .arr 32 1 (List.replicate 32 (.int .u8 0)), .int .u64 0], .struct [(27, 0), (26, 1), (27, 33)]⟩
def ti59 : TyI := ⟨34, 48, .agg 34 [.int .u64 0, .arr 32 1 (List.replicate 32 (.int .u8 0)), .int .u64 0], .struct [(27, 0), (26, 1), (27, 33)]⟩
def ti61 : TyI := ⟨1, 8, .nilf, .other⟩
def ti63 : TyI := ⟨1, 8, .nilf, .other⟩
def ti64 : TyI := ⟨1, 8, .nilf, .other⟩
def ti65 : TyI := ⟨1, 8, .nilf, .other⟩
def ti66 : TyI := ⟨1, 8, .nilf, .other⟩
def ti67 : TyI := ⟨1, 8, .nilf, .other⟩
def ti68 : TyI := ⟨1, 8, .nilf, .other⟩
def ti69 : TyI := ⟨36, 80, .agg 36 [.bool false, .arr 32 1 (List.replicate 32 (.int .u8 0)), .nils, .int .i64 0, .int .i64 0], .struct [(4, 0), (26, 1), (38, 33), (3, 34), (3, 35)]⟩
def ti70 : TyI := ⟨36, 80, .agg 36 [.bool false, .arr 32 1 (List.replicate 32 (.int .u8 0)), .nils, .int .i64 0, .int .i64 0], .struct [(4, 0), (26, 1), (38, 33), (3, 34), (3, 35)]⟩
def ti71 : TyI := ⟨1, 8, .nilf, .other⟩
def ti72 : TyI := ⟨1, 8, .nilf, .other⟩
def ti73 : TyI := ⟨1, 8, .nilf, .other⟩
def ti74 : TyI := ⟨1, 8, .nilf, .other⟩
def ti75 : TyI := ⟨1, 8, .nilf, .other⟩
def ti76 : TyI := ⟨1, 8, .nilf, .other⟩
def ti77 : TyI := ⟨1, 8, .nilf, .other⟩
def ti78 : TyI := ⟨1, 8, .nilf, .other⟩
def ti79 : TyI := ⟨1, 8, .nilf, .other⟩
def ti80 : TyI := ⟨1, 8, .nilf, .other⟩
def ti82 : TyI := ⟨1, 8, .nilf, .other⟩
def ti83 : TyI := ⟨1, 8, .nilf, .other⟩
def ti84 : TyI := ⟨1, 8, .nilf, .other⟩
def ti85 : TyI := ⟨1, 8, .nilf, .other⟩
def ti86 : TyI := ⟨1, 8, .nilf, .other⟩
def ti87 : TyI := ⟨33, 56, .agg 33 [.arr 32 1 (List.replicate 32 (.int .u8 0)), .nils], .struct [(26, 0), (38, 32)]⟩
def ti88 : TyI := ⟨33, 56, .agg 33 [.arr 32 1 (List.replicate 32 (.int .u8 0)), .nils], .struct [(26, 0), (38, 32)]⟩
def ti89 : TyI := ⟨1, 8, .nilf, .other⟩
def ti90 : TyI := ⟨1, 8, .nilp, .ptr⟩
def ti91 : TyI := ⟨2, 32, .agg 2 [.agg 2 [.nils, .int .i64 0]], .struct [(24, 0)]⟩
def ti92 : TyI := ⟨2, 32, .agg 2 [.agg 2 [.nils, .int .i64 0]], .struct [(24, 0)]⟩
def ti93 : TyI := ⟨1, 8, .nilf, .other⟩
def ti94 : TyI := ⟨1, 8, .nilf, .other⟩
def ti96 : TyI := ⟨1, 8, .nilf, .other⟩
def ti98 : TyI := ⟨1, 8, .nilf, .other⟩
def ti99 : TyI := ⟨1, 8, .nilf, .other⟩
def ti100 : TyI := ⟨1, 8, .nilp, .ptr⟩
def ti101 : TyI := ⟨2, 32, .agg 2 [.agg 2 [.nils, .int .i64 0]], .struct [(24, 0)]⟩
def ti102 : TyI := ⟨1, 8, .nilf, .other⟩
def ti103 : TyI := ⟨1, 8, .nilf, .other⟩
def ti104 : TyI := ⟨1, 8, .nilf, .other⟩
def ti105 : TyI := ⟨1, 8, .nilf, .other⟩
def ti107 : TyI := ⟨1, 8, .nilf, .other⟩
def ti109 : TyI := ⟨1, 8, .nilf, .other⟩
def ti110 : TyI := ⟨2, 16, .arr 2 1 (List.replicate 2 (.int .i64 0)), .arr 2 3⟩
def ti111 : TyI := ⟨1, 8, .nilf, .other⟩
def ti112 : TyI := ⟨1, 8, .nilf, .other⟩
def ti113 : TyI := ⟨1, 8, .nilf, .other⟩
def ti114 : TyI := ⟨1, 8, .nilf, .other⟩
def ti115 : TyI := ⟨1, 8, .nilf, .other⟩
def ti116 : TyI := ⟨1, 8, .nilf, .other⟩
def ti117 : TyI := ⟨1, 8, .nilf, .other⟩
def ti118 : TyI := ⟨1, 8, .nilf, .other⟩
def ti120 : TyI := ⟨1, 8, .nilf, .other⟩
def ti121 : TyI := ⟨1, 8, .nilf, .other⟩
def ti123 : TyI := ⟨1, 8, .nilf, .other⟩
def ti124 : TyI := ⟨1, 8, .int .u64 0, .int .u64⟩
def ti125 : TyI := ⟨1, 8, .nilf, .other⟩
def ti126 : TyI := ⟨1, 8, .nilf, .other⟩
def ti127 : TyI := ⟨1, 8, .nilf, .other⟩
def ti128 : TyI := ⟨1, 8, .nilf, .other⟩
def ti129 : TyI := ⟨1, 8, .nilf, .other⟩
def ti130 : TyI := ⟨1, 8, .nilf, .other⟩
def ti131 : TyI := ⟨1, 8, .nilf, .other⟩
def ti133 : TyI := ⟨1, 8, .nilf, .other⟩
def ti134 : TyI := ⟨64, 64, .arr 64 32 (List.replicate 2 (.arr 32 1 (List.replicate 32 (.int .u8 0)))), .arr 2 26⟩
def ti136 : TyI := ⟨1, 8, .nilf, .other⟩
def ti137 : TyI := ⟨1, 8, .nilf, .other⟩
def ti138 : TyI := ⟨1, 8, .nilf, .other⟩
def ti139 : TyI := ⟨1, 8, .nilf, .other⟩
def ti140 : TyI := ⟨1, 8, .nilf, .other⟩
def ti141 : TyI := ⟨1, 8, .nilf, .other⟩
def ti142 : TyI := ⟨1, 8, .nilf, .other⟩
def ti143 : TyI := ⟨1, 8, .nilf, .other⟩
def ti144 : TyI := ⟨1, 8, .nilf, .other⟩
def ti145 : TyI := ⟨1, 8, .nilf, .other⟩
def ti146 : TyI := ⟨1, 8, .nilf, .other⟩
def ti147 : TyI := ⟨1, 8, .nilf, .other⟩
def ti148 : TyI := ⟨1, 8, .nilf, .other⟩
def ti151 : TyI := ⟨0, 0, .arr 0 1 (List.replicate 0 (.nilp)), .arr 0 16⟩
def ti154 : TyI := ⟨1, 8, .nilf, .other⟩
def ti155 : TyI := ⟨1, 4, .int .u32 0, .int .u32⟩
def ti156 : TyI := ⟨1, 1, .int .u8 0, .int .u8⟩
def ti157 : TyI := ⟨1, 1, .int .u8 0, .int .u8⟩
def ti158 : TyI := ⟨1, 8, .nilf, .other⟩
def ti159 : TyI := ⟨1, 8, .nilp, .ptr⟩
def ti160 : TyI := ⟨1, 4, .int .i32 0, .int .i32⟩
def ti161 : TyI := ⟨1, 4, .int .i32 0, .int .i32⟩
noncomputable def tyT : Tr TyI := .node none (.node (some ti1) (.node (some ti3) (.node (some ti7) (.node (some ti15) (.node (some ti31) (.node (some ti63) (.node (some ti127) .nil .nil) .nil) (.node none (.node (some ti159) .nil .nil) .nil)) (.node (some ti47) (.node (some ti79) (.node (some ti143) .nil .nil) .nil) (.node (some ti111) .nil .nil))) (.node (some ti23) (.node none (.node (some ti71) .nil .nil) (.node (some ti103) .nil .nil)) (.node (some ti55) (.node (some ti87) (.node (some ti151) .nil .nil) .nil) .nil))) (.node (some ti11) (.node none (.node (some ti35) (.node (some ti67) (.node (some ti131) .nil .nil) .nil) (.node (some ti99) .nil .nil)) (.node (some ti51) (.node (some ti83) (.node (some ti147) .nil .nil) .nil) (.node (some ti115) .nil .nil))) (.node (some ti27) (.node none (.node (some ti75) (.node (some ti139) .nil .nil) .nil) (.node (some ti107) .nil .nil)) (.node (some ti59) (.node (some ti91) (.node (some ti155) .nil .nil) .nil) (.node (some ti123) .nil .nil))))) (.node (some ti5) (.node (some ti9) (.node (some ti17) (.node none (.node (some ti65) (.node (some ti129) .nil .nil) .nil) (.node none (.node (some ti161) .nil .nil) .nil)) (.node (some ti49) (.node none (.node (some ti145) .nil .nil) .nil) (.node (some ti113) .nil .nil))) (.node (some ti25) (.node (some ti41) (.node (some ti73) (.node (some ti137) .nil .nil) .nil) (.node (some ti105) .nil .nil)) (.node (some ti57) (.node (some ti89) .nil .nil) (.node (some ti121) .nil .nil)))) (.node none (.node (some ti21) (.node (some ti37) (.node (some ti69) (.node (some ti133) .nil .nil) .nil) (.node (some ti101) .nil .nil)) (.node (some ti53) (.node (some ti85) .nil .nil) (.node (some ti117) .nil .nil))) (.node (some ti29) (.node (some ti45) (.node (some ti77) (.node (some ti141) .nil .nil) .nil) (.node (some ti109) .nil .nil)) (.node (some ti61) (.node (some ti93) (.node (some ti157) .nil .nil) .nil) (.node (some ti125) .nil .nil)))))) (.node (some ti2) (.node (some ti4) (.node (some ti8) (.node (some ti16) (.node (some ti32) (.node (some ti64) (.node (some ti128) .nil .nil) .nil) (.node (some ti96) (.node (some ti160) .nil .nil) .nil)) (.node none (.node (some ti80) (.node (some ti144) .nil .nil) .nil) (.node (some ti112) .nil .nil))) (.node (some ti24) (.node (some ti40) (.node (some ti72) (.node (some ti136) .nil .nil) .nil) (.node (some ti104) .nil .nil)) (.node (some ti56) (.node (some ti88) .nil .nil) (.node (some ti120) .nil .nil)))) (.node (some ti12) (.node (some ti20) (.node none (.node (some ti68) .nil .nil) (.node (some ti100) .nil .nil)) (.node (some ti52) (.node (some ti84) (.node (some ti148) .nil .nil) .nil) (.node (some ti116) .nil .nil))) (.node (some ti28) (.node (some ti44) (.node (some ti76) (.node (some ti140) .nil .nil) .nil) .nil) (.node none (.node (some ti92) (.node (some ti156) .nil .nil) .nil) (.node (some ti124) .nil .nil))))) (.node (some ti6) (.node (some ti10) (.node none (.node (some ti34) (.node (some ti66) (.node (some ti130) .nil .nil) .nil) (.node (some ti98) .nil .nil)) (.node none (.node (some ti82) (.node (some ti146) .nil .nil) .nil) (.node (some ti114) .nil .nil))) (.node (some ti26) (.node (some ti42) (.node (some ti74) (.node (some ti138) .nil .nil) .nil) .nil) (.node (some ti58) (.node (some ti90) (.node (some ti154) .nil .nil) .nil) .nil))) (.node none (.node (some ti22) (.node (some ti38) (.node (some ti70) (.node (some ti134) .nil .nil) .nil) (.node (some ti102) .nil .nil)) (.node (some ti54) (.node (some ti86) .nil .nil) (.node (some ti118) .nil .nil))) (.node (some ti30) (.node none (.node (some ti78) (.node (some ti142) .nil .nil) .nil) (.node (some ti110) .nil .nil)) (.node none (.node (some ti94) (.node (some ti158) .nil .nil) .nil) (.node (some ti126) .nil .nil))))))
noncomputable def fnT : Tr Func := .node none (.node none (.node (some Try.f3) (.node (some Try.f7) (.node (some Try.f15) (.node (some Try.f31) (.node (some Try.f63) .nil .nil) .nil) (.node (some Try.f47) (.node (some Try.f79) .nil .nil) .nil)) (.node (some Try.f23) (.node (some Try.f39) (.node (some Try.f71) .nil .nil) .nil) (.node (some Try.f55) (.node (some Try.f87) .nil .nil) .nil))) (.node (some Try.f11) (.node (some Try.f19) (.node (some Try.f35) (.node (some Try.f67) .nil .nil) .nil) (.node (some Try.f51) (.node (some Try.f83) .nil .nil) .nil)) (.node (some Try.f27) (.node (some Try.f43) (.node (some Try.f75) .nil .nil) .nil) (.node (some Try.f59) (.node (some Try.f91) .nil .nil) .nil)))) (.node (some Try.f5) (.node (some Try.f9) (.node (some Try.f17) (.node (some Try.f33) (.node (some Try.f65) .nil .nil) .nil) (.node (some Try.f49) (.node (some Try.f81) .nil .nil) .nil)) (.node (some Try.f25) (.node (some Try.f41) (.node (some Try.f73) .nil .nil) .nil) (.node (some Try.f57) (.node (some Try.f89) .nil .nil) .nil))) (.node (some Try.f13) (.node (some Try.f21) (.node (some Try.f37) (.node (some Try.f69) .nil .nil) .nil) (.node (some Try.f53) (.node (some Try.f85) .nil .nil) .nil)) (.node (some Try.f29) (.node (some Try.f45) (.node (some Try.f77) .nil .nil) .nil) (.node (some Try.f61) (.node (some Try.f93) .nil .nil) .nil))))) (.node none (.node (some Try.f4) (.node (some Try.f8) (.node (some Try.f16) (.node (some Try.f32) (.node (some Try.f64) .nil .nil) .nil) (.node (some Try.f48) (.node (some Try.f80) .nil .nil) .nil)) (.node (some Try.f24) (.node (some Try.f40) (.node (some Try.f72) .nil .nil) .nil) (.node (some Try.f56) (.node (some Try.f88) .nil .nil) .nil))) (.node (some Try.f12) (.node (some Try.f20) (.node (some Try.f36) (.node (some Try.f68) .nil .nil) .nil) (.node (some Try.f52) (.node (some Try.f84) .nil .nil) .nil)) (.node (some Try.f28) (.node (some Try.f44) (.node (some Try.f76) .nil .nil) .nil) (.node (some Try.f60) (.node (some Try.f92) .nil .nil) .nil)))) (.node (some Try.f6) (.node (some Try.f10) (.node (some Try.f18) (.node (some Try.f34) (.node (some Try.f66) .nil .nil) .nil) (.node (some Try.f50) (.node (some Try.f82) .nil .nil) .nil)) (.node (some Try.f26) (.node none (.node (some Try.f74) .nil .nil) .nil) (.node (some Try.f58) (.node (some Try.f90) .nil .nil) .nil))) (.node (some Try.f14) (.node (some Try.f22) (.node (some Try.f38) (.node (some Try.f70) .nil .nil) .nil) (.node (some Try.f54) (.node (some Try.f86) .nil .nil) .nil)) (.node (some Try.f30) (.node (some Try.f46) (.node (some Try.f78) .nil .nil) .nil) (.node (some Try.f62) .nil .nil)))))
noncomputable def extT : Tr (List V → Option V) := .node none .nil (.node none .nil (.node none (.node none .nil (.node none (.node (some add64V) .nil .nil) .nil)) .nil))
noncomputable def mpT : Tr (TypeId × TypeId) := .nil
noncomputable def mtT : Tr (List (String × FuncId)) := .nil
noncomputable def cfg : Cfg := ⟨fun t => tyT.get t, fun f => fnT.get f, fun f => extT.get f, fun g => Nat.ble (g + 1) 0, fun _ => none, fun t => mpT.get t, fun t m => mtOf mtT t m⟩
end Go.Proofs.Ytgeelfdgnehdnaa

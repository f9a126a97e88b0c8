/-
  The plain machine's run of a region that draws its order, sound in every order. Nothing here speaks of a program.
-/
import Derived.Test.YtmlemnbhjbaedaaGreatDoorEFlo
namespace Go.Proofs.YtmlemnbhjbaedaaGreatDoor
open Go.RowKit
set_option linter.unusedSimpArgs false
set_option linter.unusedVariables false

structure FCtx (P : Program) (C : Cfg) (S : Self) (U N : Nat) (ops : Array Oper) (frs : Nat → Tr V) (hs : Nat → Heap) (vs : Nat → V) (xs : Nat → Option Ev) : Prop where
  hC : CfgOK P C
  hS : SelfOK P C S
  hB : flowB N ops.toList ops.size = true
  st : ∀ (j : Nat) (o : Oper), ops[j]? = some o → StepAt S C ops o (frs j) (hs j) (vs j) (hs (j + 1)) (xs j) ∧ frs (j + 1) = putT (frs j) o.dst (vs j)
  cl : ∀ (j k : Nat) (x y : Ev), j < ops.size → k < j → xs j = some x → xs k = some y → y.clash x = true → reachB ops ops.size j k = true
  wf0 : ∀ i, (hs 0).next ≤ i → (hs 0).get i = none
  hU : (hs ops.size).next ≤ U
structure FInv (C : Cfg) (s0 : World) (U N : Nat) (X : List Deferred) (ops : Array Oper) (frs : Nat → Tr V) (hs : Nat → Heap) (vs : Nat → V) (xs : Nat → Option Ev) (D0 : Nat → Prop) (ρ0 : Env) (w0 : World) (listed : Array Bool) (a : Act) (w : World) (D : Nat → Prop) (ρ : Env) (H : Heap) : Prop where
  size : listed.size = ops.size
  asz : a.tmps.size = N
  adf : a.defers = X
  closed : ∀ (k : Nat) (o : Oper) (e : Edge), ops[k]? = some o → listed[k]? = some true → e ∈ o.after → Region.binds .any e = true → listed[e.on]? = some true
  next : H.next = (hs ops.size).next
  wmin : H.wmin = (hs ops.size).wmin
  char : ∀ i, D i → D0 i ∨ ∃ k : Nat, listed[k]? = some true ∧ (hs k).next ≤ i ∧ i < (hs (k + 1)).next
  lt0 : ∀ i, D0 i → i < (hs 0).next ∨ U ≤ i
  cont : ∀ i, D i → ∀ p, p ≤ ops.size → (∀ k, k < p → Tch (xs k) (hs k).next (hs (k + 1)).next i → listed[k]? = some true) → (∀ k, p ≤ k → k < ops.size → Tch (xs k) (hs k).next (hs (k + 1)).next i → listed[k]? = some false) → H.get i = (hs p).get i
  rel : Rel s0 U D ρ H w
  nxt : Nxt D0 ρ0 (hs 0) w0 D ρ (hs ops.size) w
  got : ∀ (k : Nat) (o : Oper) (t : Nat), ops[k]? = some o → listed[k]? = some true → o.dst = some t → a.tmps[t]? = some (conc ρ (vs k)) ∧ InD (DD D ρ) (vs k)
  base : ∀ t v, (∀ (k : Nat) (o : Oper), ops[k]? = some o → o.dst = some t → listed[k]? = some false) → (frs 0).get t = some v → a.tmps[t]? = some (conc ρ v) ∧ InD (DD D ρ) v
  gl : GlobOK C (DD D ρ) ρ

section
variable {P : Program} {C : Cfg} {S : Self} {s0 : World} {U N : Nat} {X : List Deferred} {ops : Array Oper} {frs : Nat → Tr V} {hs : Nat → Heap} {vs : Nat → V} {xs : Nat → Option Ev} {D0 : Nat → Prop} {ρ0 : Env} {w0 : World} {listed : Array Bool} {a : Act} {w : World} {D : Nat → Prop} {ρ : Env} {H : Heap}
theorem FCtx.at_ {j : Nat} (_ : FCtx P C S U N ops frs hs vs xs) (hj : j < ops.size) : ∃ o, ops[j]? = some o := ⟨_, Array.getElem?_eq_getElem hj⟩
theorem FCtx.mono (c : FCtx P C S U N ops frs hs vs xs) {j : Nat} : ∀ (d : Nat), j + d ≤ ops.size → Mono (hs j) (hs (j + d))
  | 0, _ => Mono.refl _
  | d + 1, h => by
    obtain ⟨o, ho⟩ := c.at_ (show j + d < ops.size by omega)
    exact (c.mono d (by omega)).trans ((c.st _ o ho).1.mono c.hS)
theorem FCtx.monoLe (c : FCtx P C S U N ops frs hs vs xs) {j k : Nat} (h1 : j ≤ k) (h2 : k ≤ ops.size) : Mono (hs j) (hs k) := by
  have := c.mono (j := j) (k - j) (by omega)
  rwa [show j + (k - j) = k by omega] at this
theorem FCtx.wf (c : FCtx P C S U N ops frs hs vs xs) {j : Nat} (h : j ≤ ops.size) : ∀ i, (hs j).next ≤ i → (hs j).get i = none := (c.monoLe (Nat.zero_le j) h).wf c.wf0
theorem FCtx.keep (c : FCtx P C S U N ops frs hs vs xs) {j i : Nat} : ∀ (d : Nat), j + d ≤ ops.size → (∀ k, j ≤ k → k < j + d → ¬ Tch (xs k) (hs k).next (hs (k + 1)).next i) → (hs (j + d)).get i = (hs j).get i
  | 0, _, _ => rfl
  | d + 1, h, hn => by
    obtain ⟨o, ho⟩ := c.at_ (show j + d < ops.size by omega)
    exact ((c.st _ o ho).1.keep c.hS (c.wf (by omega)) (hn (j + d) (by omega) (by omega))).trans (c.keep d (by omega) fun k h1 h2 => hn k h1 (by omega))
/-- who turns a block did something -/
theorem FCtx.tch_ev (c : FCtx P C S U N ops frs hs vs xs) {k i : Nat} (hk : k < ops.size) (ht : Tch (xs k) (hs k).next (hs (k + 1)).next i) :
    i < (hs (k + 1)).next ∧ ∃ x, xs k = some x ∧ (∀ b, x ≠ .load b) ∧ ((i < (hs k).next ∧ (x = .store i ∨ x = .dirty ∨ x = .upd i)) ∨ (hs k).next ≤ i) := by
  obtain ⟨o, ho⟩ := c.at_ hk
  have st := (c.st _ o ho).1
  have hm := (st.mono c.hS).nxt
  rcases ht with ⟨h1, h2⟩ | h | ⟨h | h, h1⟩
  · refine ⟨h2, ?_⟩
    cases hx : xs k with
    | none => rw [hx] at st; rw [st.still] at h2; omega
    | some x =>
      refine ⟨x, rfl, fun b e => ?_, .inr h1⟩
      rw [hx, e] at st; rw [st.load] at h2; omega
  · have st' := st
    rw [h] at st'
    obtain ⟨e, B, hB⟩ := st'.store
    have hlt : i < (hs k).next := by
      rcases Nat.lt_or_ge i (hs k).next with h' | h'
      · exact h'
      · rw [c.wf (by omega) i h'] at hB; cases hB
    exact ⟨by omega, _, h, fun b e => (by cases e), .inl ⟨hlt, .inl rfl⟩⟩
  · exact ⟨by omega, _, h, fun b e => (by cases e), .inl ⟨h1, .inr (.inl rfl)⟩⟩
  · exact ⟨by omega, _, h, fun b e => (by cases e), .inl ⟨h1, .inr (.inr rfl)⟩⟩
/-- a block that an operation may look at -/
noncomputable def Reads (x : Ev) (i : Nat) : Prop := match x with
  | .load b => i = b
  | .store b => i = b
  | .gen => True
  | .dirty => True
  | .upd _ => True
theorem clash_reads {x y : Ev} {i : Nat} (hr : Reads x i) (hy : y = .store i ∨ y = .dirty ∨ y = .upd i) : y.clash x = true ∧ x.clash y = true := by
  rcases hy with rfl | rfl | rfl <;> cases x <;> simp_all [Ev.clash, Reads]
/-- what lies there when its turn has come -/
theorem FInv.now (c : FCtx P C S U N ops frs hs vs xs) (inv : FInv C s0 U N X ops frs hs vs xs D0 ρ0 w0 listed a w D ρ H) {j : Nat} {o : Oper} {x : Ev} {i : Nat} (hj : ops[j]? = some o) (hjf : listed[j]? = some false)
    (hed : ∀ e ∈ o.after, Region.binds .any e = true → listed[e.on]? = some true) (hx : xs j = some x) (hr : Reads x i) (hi : D i) (hlt : i < (hs j).next) : H.get i = (hs j).get i := by
  have hjs := (Array.getElem?_eq_some_iff.1 hj).1
  have hreach : ∀ k, reachB ops ops.size j k = true → listed[k]? = some true := fun k hk => reach_listed inv.closed _ j k hk fun o' e ho' he hb => by
    rw [hj] at ho'; cases ho'; exact hed e he hb
  refine inv.cont i hi j (by omega) (fun k hk ht => ?_) fun k hk hks ht => ?_
  · obtain ⟨q1, y, q2, q3, q4⟩ := c.tch_ev (by omega) ht
    rcases q4 with ⟨_, hy⟩ | hge
    · exact hreach k (c.cl j k x y hjs hk hx q2 (clash_reads hr hy).1)
    · rcases inv.char i hi with h | ⟨k', hk', g1, g2⟩
      · have := inv.lt0 i h
        have h1 := (c.monoLe (Nat.zero_le k) (by omega)).nxt
        have h2 := (c.monoLe (show j ≤ ops.size by omega) (Nat.le_refl _)).nxt
        have h3 := c.hU
        omega
      · have hk's : k' < ops.size := by rw [← inv.size]; exact (Array.getElem?_eq_some_iff.1 hk').1
        have : k' = k := by
          rcases Nat.lt_trichotomy k' k with h | h | h
          · have := (c.monoLe (show k' + 1 ≤ k by omega) (by omega)).nxt; omega
          · exact h
          · have := (c.monoLe (show k + 1 ≤ k' by omega) (by omega)).nxt; omega
        rw [← this]; exact hk'
  · by_cases e : k = j
    · rw [e]; exact hjf
    · obtain ⟨q1, y, q2, q3, q4⟩ := c.tch_ev hks ht
      have hjk := (c.monoLe (show j ≤ k by omega) (by omega)).nxt
      rcases q4 with ⟨_, hy⟩ | hge
      · have hreach := c.cl k j y x hks (by omega) q2 hx (clash_reads hr hy).2
        have hks' : k < listed.size := by rw [inv.size]; exact hks
        cases hv : listed[k] with
        | false => rw [Array.getElem?_eq_getElem hks', hv]
        | true =>
          have hl : listed[k]? = some true := by rw [Array.getElem?_eq_getElem hks', hv]
          have := reach_listed inv.closed _ k j hreach fun o' e ho' he hb => inv.closed k o' e ho' hl he hb
          rw [hjf] at this; cases this
      · omega
/-- the slots in the text's order -/
theorem FCtx.frs_get (c : FCtx P C S U N ops frs hs vs xs) (t : Nat) : ∀ j, j ≤ ops.size → (∃ (k : Nat) (o : Oper), k < j ∧ ops[k]? = some o ∧ o.dst = some t ∧ (frs j).get t = some (vs k)) ∨ ((∀ (k : Nat) (o : Oper), k < j → ops[k]? = some o → o.dst ≠ some t) ∧ (frs j).get t = (frs 0).get t)
  | 0, _ => .inr ⟨fun k o hk => by omega, rfl⟩
  | j + 1, h => by
    obtain ⟨o, ho⟩ := c.at_ (show j < ops.size by omega)
    have e := (c.st j o ho).2
    by_cases hd : o.dst = some t
    · exact .inl ⟨j, o, by omega, ho, hd, by rw [e, hd]; simp [putT, Tr.get_set]⟩
    · have e2 : (frs (j + 1)).get t = (frs j).get t := by
        rw [e]
        cases hd' : o.dst with
        | none => rfl
        | some u =>
          simp only [putT, Tr.get_set]
          rw [if_neg]
          rintro rfl
          exact hd hd'
      rw [e2]
      rcases c.frs_get t j (by omega) with ⟨k, p, h1, h2, h3, h4⟩ | ⟨h1, h2⟩
      · exact .inl ⟨k, p, by omega, h2, h3, h4⟩
      · refine .inr ⟨fun k p hk hp => ?_, h2⟩
        by_cases hkj : k = j
        · subst hkj; rw [ho] at hp; cases hp; exact hd
        · exact h1 k p (by omega) hp
/-- the slots that its turn looks at -/
theorem FInv.fr (c : FCtx P C S U N ops frs hs vs xs) (inv : FInv C s0 U N X ops frs hs vs xs D0 ρ0 w0 listed a w D ρ H) {j : Nat} {o : Oper} (hj : ops[j]? = some o) (hjf : listed[j]? = some false)
    (hed : ∀ e ∈ o.after, Region.binds .any e = true → listed[e.on]? = some true) : ∃ fc : Tr V, (∀ t ∈ o.looksAt ops, fc.get t = (frs j).get t) ∧ FrE C D ρ fc a := by
  have hjs := (Array.getElem?_eq_some_iff.1 hj).1
  obtain ⟨fc, hfc⟩ := (frs j).cut (o.looksAt ops)
  refine ⟨fc, fun t ht => by rw [hfc, if_pos ht], ?_⟩
  obtain ⟨_, _, _, hpre, _⟩ := flowB_at c.hB hj
  have key : ∀ t v, fc.get t = some v → a.tmps[t]? = some (conc ρ v) ∧ InD (DD D ρ) v := fun t v hv => by
    rw [hfc] at hv
    split at hv
    · rename_i ht
      rcases c.frs_get t j (by omega) with ⟨k, p, h1, h2, h3, h4⟩ | ⟨h1, h2⟩
      · rw [h4] at hv; cases hv
        rcases (hpre hjs k p t (by omega) h2 h3).2 ht with h | h
        · omega
        · rw [if_pos h1] at h
          obtain ⟨e, he, hb, heq⟩ := edgeTo_spec h
          have := hed e he hb
          rw [heq] at this
          exact inv.got k p t h2 this h3
      · rw [h2] at hv
        refine inv.base t v (fun k p hp hpd => ?_) hv
        have hks := (Array.getElem?_eq_some_iff.1 hp).1
        have hks' : k < listed.size := by rw [inv.size]; exact hks
        rcases Nat.lt_trichotomy k j with h | h | h
        · exact absurd hpd (h1 k p h hp)
        · rw [h]; exact hjf
        · rcases (hpre hjs k p t hks hp hpd).2 ht with h' | h'
          · omega
          · rw [if_neg (by omega)] at h'
            obtain ⟨e, he, hb, heq⟩ := edgeTo_spec h'
            rw [Array.getElem?_eq_getElem hks']
            congr 1
            cases hv' : listed[k] with
            | false => rfl
            | true =>
              have := inv.closed k p e hp (by rw [Array.getElem?_eq_getElem hks', hv']) he hb
              rw [heq, hjf] at this; cases this
    · cases hv
  exact ⟨⟨fun t v hv => (key t v hv).1, fun t v hv => (key t v hv).2, inv.gl⟩⟩
/-- behind its turn -/
theorem FInv.upd (c : FCtx P C S U N ops frs hs vs xs) (inv : FInv C s0 U N X ops frs hs vs xs D0 ρ0 w0 listed a w D ρ H) {j : Nat} {o : Oper} (hj : ops[j]? = some o) (hjf : listed[j]? = some false)
    (hed : ∀ e ∈ o.after, Region.binds .any e = true → listed[e.on]? = some true) {D' : Nat → Prop} {ρ' : Env} {H' : Heap} {w' : World} (hchar : ∀ i, D' i → D i ∨ ((hs j).next ≤ i ∧ i < (hs (j + 1)).next)) (hnext : H'.next = (hs ops.size).next) (hwmin : H'.wmin = (hs ops.size).wmin)
    (hkeep : ∀ i, D' i → ¬ Tch (xs j) (hs j).next (hs (j + 1)).next i → H'.get i = H.get i) (hnew : ∀ i, D' i → Tch (xs j) (hs j).next (hs (j + 1)).next i → H'.get i = (hs (j + 1)).get i)
    (rel' : Rel s0 U D' ρ' H' w') (nxt' : Nxt D0 ρ0 (hs 0) w0 D' ρ' (hs ops.size) w') (ag : Env.Agree (DD D ρ) ρ ρ') (dd : ∀ i m, DD D ρ i m → DD D' ρ' i m) (hv : InD (DD D' ρ') (vs j)) :
    FInv C s0 U N X ops frs hs vs xs D0 ρ0 w0 (listed.setIfInBounds j true) (a.put o.dst (conc ρ' (vs j))) w' D' ρ' H' := by
  have hjs := (Array.getElem?_eq_some_iff.1 hj).1
  obtain ⟨_, hdst, _, hpre, _⟩ := flowB_at c.hB hj
  have hjls : j < listed.size := by rw [inv.size]; exact hjs
  have hset : ∀ k : Nat, (listed.setIfInBounds j true)[k]? = if j = k then some true else listed[k]? := fun k => by
    rw [Array.getElem?_setIfInBounds]; split
    · rename_i e; subst e; simp
    · rfl
  refine ⟨by simp [inv.size], by cases o.dst <;> simp [Act.put, inv.asz], by cases o.dst <;> simp [Act.put, inv.adf], ?_, hnext, hwmin, ?_, inv.lt0, ?_, rel', nxt', ?_, ?_, ?_⟩
  · intro k p e hp hlk he hbe
    rw [hset] at hlk
    rw [hset]
    split
    · rfl
    · split at hlk
      · rename_i e'; subst e'
        rw [hj] at hp; cases hp
        exact hed e he hbe
      · exact inv.closed k p e hp hlk he hbe
  · intro i hi
    rcases hchar i hi with h | h
    · rcases inv.char i h with h | ⟨k, hk, h⟩
      · exact .inl h
      · refine .inr ⟨k, ?_, h⟩
        rw [hset]; split
        · rfl
        · exact hk
    · exact .inr ⟨j, by rw [hset, if_pos rfl], h⟩
  · intro i hi p hp h1 h2
    by_cases ht : Tch (xs j) (hs j).next (hs (j + 1)).next i
    · have hpj : j < p := by
        rcases Nat.lt_or_ge j p with h | h
        · exact h
        · have := h2 j h hjs ht
          rw [hset, if_pos rfl] at this; cases this
      rw [hnew i hi ht]
      have := c.keep (j := j + 1) (i := i) (p - (j + 1)) (by omega) fun k hk1 hk2 htk => by
        have hks : k < ops.size := by omega
        have hl := h1 k (by omega) htk
        rw [hset, if_neg (by omega)] at hl
        obtain ⟨q1, x, qx, q3, q4⟩ := c.tch_ev hjs ht
        obtain ⟨r1, y, ry, r3, r4⟩ := c.tch_ev hks htk
        have hjk := (c.monoLe (show j + 1 ≤ k by omega) (by omega)).nxt
        have hy : y = .store i ∨ y = .dirty ∨ y = .upd i := by
          rcases r4 with ⟨_, h⟩ | h
          · exact h
          · omega
        have hcl : x.clash y = true := by
          rcases q4 with ⟨_, h⟩ | h
          · rcases h with rfl | rfl | rfl
            · exact (clash_reads (x := .store i) rfl hy).2
            · exact (clash_reads (x := .dirty) (i := i) trivial hy).2
            · exact (clash_reads (x := .upd i) (i := i) trivial hy).2
          · cases x with
            | load b => exact absurd rfl (q3 b)
            | store b =>
              exfalso
              have := (c.st j o hj).1
              rw [qx] at this
              have := this.store.1
              omega
            | gen => exact (clash_reads (x := .gen) (i := i) trivial hy).2
            | dirty => exact (clash_reads (x := .dirty) (i := i) trivial hy).2
            | upd b => exact (clash_reads (x := .upd b) (i := i) trivial hy).2
        have := reach_listed inv.closed _ k j (c.cl k j y x hks (by omega) ry qx hcl) fun o' e ho' he hb => inv.closed k o' e ho' hl he hb
        rw [hjf] at this; cases this
      rw [show j + 1 + (p - (j + 1)) = p by omega] at this
      exact this.symm
    · rw [hkeep i hi ht]
      have hi' : D i := by
        rcases hchar i hi with h | h
        · exact h
        · exact absurd (.inl h) ht
      refine inv.cont i hi' p hp (fun k hk htk => ?_) fun k hk hks htk => ?_
      · have := h1 k hk htk
        rw [hset, if_neg] at this
        · exact this
        · rintro rfl; exact ht htk
      · have := h2 k hk hks htk
        rw [hset] at this
        split at this
        · cases this
        · exact this
  · intro k p t hp hlk hpd
    rw [hset] at hlk
    by_cases e : j = k
    · subst e
      rw [hj] at hp; cases hp
      have ht : t < N := by rw [hpd] at hdst; simpa [dstOk] using hdst
      exact ⟨by simp [hpd, Act.put, inv.asz, ht], hv⟩
    · rw [if_neg e] at hlk
      obtain ⟨g1, g2⟩ := inv.got k p t hp hlk hpd
      have hks := (Array.getElem?_eq_some_iff.1 hp).1
      refine ⟨?_, g2.mono dd⟩
      rw [conc_agree ag g2]
      have hne : o.dst ≠ some t := by
        rcases (hpre hjs k p t hks hp hpd).1 with h | h
        · exact absurd h.symm e
        · exact h
      cases hd : o.dst with
      | none => exact g1
      | some u =>
        rw [hd] at hne
        simp only [Act.put, Array.getElem?_setIfInBounds]
        rw [if_neg (fun e' => hne (by rw [e']))]
        exact g1
  · intro t v hno hv'
    have hne : o.dst ≠ some t := fun h => by
      have := hno j o hj h
      rw [hset, if_pos rfl] at this; cases this
    obtain ⟨g1, g2⟩ := inv.base t v (fun k p hp hpd => by
      have := hno k p hp hpd
      rw [hset] at this
      split at this
      · cases this
      · exact this) hv'
    refine ⟨?_, g2.mono dd⟩
    rw [conc_agree ag g2]
    cases hd : o.dst with
    | none => exact g1
    | some u =>
      rw [hd] at hne
      simp only [Act.put, Array.getElem?_setIfInBounds]
      rw [if_neg (fun e' => hne (by rw [e']))]
      exact g1
  · intro i hi
    obtain ⟨h1, h2, h3⟩ := inv.gl i hi
    obtain ⟨e1, e2, _⟩ := ag i 0 h1
    exact ⟨dd i 0 h1, e1.trans h2, e2.trans h3⟩
end
end Go.Proofs.YtmlemnbhjbaedaaGreatDoor

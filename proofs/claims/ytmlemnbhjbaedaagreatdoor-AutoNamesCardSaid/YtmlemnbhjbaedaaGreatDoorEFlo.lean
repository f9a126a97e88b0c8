/-
  The plain machine's run of a region that draws its order: whatever the order, the same is known behind it. Nothing here speaks of a program.
-/
import Derived.Test.YtmlemnbhjbaedaaGreatDoorECode
import Derived.Test.YtmlemnbhjbaedaaGreatDoorECong
namespace Go.Proofs.YtmlemnbhjbaedaaGreatDoor
open Go.RowKit
set_option linter.unusedSimpArgs false
set_option linter.unusedVariables false

/-! ### the run in the text's order, operation by operation -/
noncomputable def StepAt (S : Self) (C : Cfg) (ops : Array Oper) (o : Oper) (fr : Tr V) (h : Heap) (v : V) (h' : Heap) (x : Option Ev) : Prop :=
  (wantV ops fr o = some false ∧ v = .undef ∧ h' = h ∧ x = none) ∨ (wantV ops fr o = some true ∧ stepF S C fr h o = some (v, h', x))
structure Trace (S : Self) (C : Cfg) (ops : Array Oper) (l : List Oper) (i : Nat) (es : List (Nat × Ev)) (fr : Tr V) (h : Heap) (fr' : Tr V) (h' : Heap) (frs : Nat → Tr V) (hs : Nat → Heap) (vs : Nat → V) (xs : Nat → Option Ev) : Prop where
  f0 : frs 0 = fr
  h0 : hs 0 = h
  fn : frs l.length = fr'
  hn : hs l.length = h'
  st : ∀ j o, l[j]? = some o → StepAt S C ops o (frs j) (hs j) (vs j) (hs (j + 1)) (xs j) ∧ frs (j + 1) = putT (frs j) o.dst (vs j)
  cl : ∀ j o x, l[j]? = some o → xs j = some x → (∀ k y, (k, y) ∈ es → y.clash x = true → reachB ops ops.size (i + j) k = true) ∧ ∀ k y, k < j → xs k = some y → y.clash x = true → reachB ops ops.size (i + j) (i + k) = true
noncomputable def con {α : Type} (x : α) (f : Nat → α) : Nat → α
  | 0 => x
  | j + 1 => f j
theorem evsOK_spec {ops : Array Oper} {j : Nat} {x : Ev} : ∀ {es : List (Nat × Ev)}, evsOK ops j x es = true → ∀ k y, (k, y) ∈ es → y.clash x = true → reachB ops ops.size j k = true
  | [], _, _, _, h, _ => by simp at h
  | (k', y') :: es, he, k, y, h, hc => by
    simp only [evsOK, Bool.and_eq_true] at he
    rcases List.mem_cons.1 h with e | h
    · cases e
      have := he.1
      rw [hc] at this
      exact this
    · exact evsOK_spec he.2 k y h hc
theorem flow_trace {S : Self} {C : Cfg} {ops : Array Oper} : ∀ (l : List Oper) (i : Nat) (es : List (Nat × Ev)) (fr : Tr V) (h : Heap) (fr' : Tr V) (h' : Heap), evalFlow S C ops l i es fr h = some (fr', h') →
    ∃ frs hs vs xs, Trace S C ops l i es fr h fr' h' frs hs vs xs
  | [], i, es, fr, h, fr', h', he => by
    simp only [evalFlow, Option.some.injEq, Prod.mk.injEq] at he
    obtain ⟨rfl, rfl⟩ := he
    exact ⟨fun _ => fr, fun _ => h, fun _ => .undef, fun _ => none, rfl, rfl, rfl, rfl, by simp, by simp⟩
  | o :: l, i, es, fr, h, fr', h', he => by
    have key : ∀ (v : V) (h1 : Heap) (x : Option Ev) (es' : List (Nat × Ev)), StepAt S C ops o fr h v h1 x → (∀ y, x = some y → evsOK ops i y es = true) → (∀ p ∈ es, p ∈ es') → (∀ y, x = some y → (i, y) ∈ es') →
        evalFlow S C ops l (i + 1) es' (putT fr o.dst v) h1 = some (fr', h') → ∃ frs hs vs xs, Trace S C ops (o :: l) i es fr h fr' h' frs hs vs xs := fun v h1 x es' hst hev hsub hin he => by
      obtain ⟨frs, hs, vs, xs, t⟩ := flow_trace l _ _ _ _ _ _ he
      refine ⟨con fr frs, con h hs, con v vs, con x xs, rfl, rfl, t.fn, t.hn, fun j o' hj => ?_, fun j o' y hj hy => ?_⟩
      · cases j with
        | zero =>
          simp at hj; subst hj
          refine ⟨?_, ?_⟩
          · show StepAt S C ops o fr h v (hs 0) x
            rw [t.h0]; exact hst
          · exact t.f0
        | succ j => exact t.st j o' (by simpa using hj)
      · cases j with
        | zero => exact ⟨fun k z hk hc => evsOK_spec (hev y hy) k z hk hc, fun k z hk => by omega⟩
        | succ j =>
          obtain ⟨q1, q2⟩ := t.cl j o' y (by simpa using hj) hy
          have e1 : i + 1 + j = i + (j + 1) := by omega
          rw [e1] at q1 q2
          refine ⟨fun k z hk hc => q1 k z (hsub _ hk) hc, fun k z hk hz hc => ?_⟩
          cases k with
          | zero => exact q1 i z (hin z hz) hc
          | succ k =>
            have := q2 k z (by omega) hz hc
            rwa [show i + 1 + k = i + (k + 1) by omega] at this
    simp only [evalFlow] at he
    split at he
    · rename_i hw
      split at he
      · rename_i v h1 x hst
        split at he
        · rename_i hev
          exact key v h1 (some x) _ (.inr ⟨hw, hst⟩) (fun y hy => by cases hy; exact hev) (fun p hp => by simp [hp]) (fun y hy => by cases hy; simp) he
        · cases he
      · rename_i v h1 hst
        exact key v h1 none _ (.inr ⟨hw, hst⟩) (fun y hy => by cases hy) (fun p hp => hp) (fun y hy => by cases hy) he
      · cases he
    · rename_i hw
      exact key .undef h none _ (.inl ⟨hw, rfl, rfl, rfl⟩) (fun y hy => by cases hy) (fun p hp => hp) (fun y hy => by cases hy) he
    · cases he

/-! ### what an operation did -/
theorem minN_le (a b : Nat) : minN a b ≤ a ∧ minN a b ≤ b := wmin_le a b
section
variable {P : Program} {C : Cfg} {S : Self} {ops : Array Oper} {o : Oper} {fr : Tr V} {h h' h1 : Heap} {v : V} {x : Option Ev}
theorem stepF_cases (hs : stepF S C fr h o = some (v, h', x)) : (pureV C fr o.type o.op = some v ∧ h' = h ∧ x = none) ∨
    (∃ h1, pureV C fr o.type o.op = none ∧ opV S C fr { h with wmin := h.next } o = some (v, h1) ∧ h' = { h1 with wmin := minN h.wmin h1.wmin } ∧ x = some (evOf C fr h h1 o.op)) := by
  unfold stepF at hs
  split at hs
  · rename_i u hu
    simp only [Option.some.injEq, Prod.mk.injEq] at hs
    obtain ⟨rfl, rfl, rfl⟩ := hs
    exact .inl ⟨hu, rfl, rfl⟩
  · rename_i hu
    split at hs
    · rename_i u h1 ho
      simp only [Option.some.injEq, Prod.mk.injEq] at hs
      obtain ⟨rfl, rfl, rfl⟩ := hs
      exact .inr ⟨h1, hu, ho, rfl, rfl⟩
    · cases hs
theorem ev_load {b : Nat} {H1 : Heap} (hp : pureV C fr o.type o.op = none) (ho : opV S C fr h o = some (v, h1)) (he : evOf C fr H1 h1 o.op = .load b) :
    (h1 = h ∧ ∀ H2 : Heap, H2.get b = h.get b → opV S C fr H2 o = some (v, H2)) ∧ (∃ B, h.get b = some B) ∧ ∃ x off, x ∈ o.op.operands ∧ evV C fr x = some (.ptr b off) := by
  unfold opV at ho ⊢
  simp only [hp] at ho ⊢
  unfold evOf at he
  split at he
  · rename_i t x hop
    split at he
    · rename_i b' off hb
      cases he
      rw [hop] at ho
      simp only [hop]
      simp only [opH, ohConvert, ohLoad, ohStore, ohAlloc, ohBox, ohBuildslice, ohMakeslice, ohAppend, ohCopy, ohSlice, ohMakemap, ohLookup, ohMapupdate, ohMapentry, ohEntrystore, ohClearA, ohClear, ohClearS, ohLenM, hb] at ho ⊢
      cases ht : C.ty t with
      | none => simp [ht, callV] at ho
      | some i =>
        simp only [ht] at ho ⊢
        cases hv : h.val b with
        | none => simp [hv, callV] at ho
        | some u =>
          simp only [hv] at ho
          cases hg : getAt 50 u off i.size i.agg with
          | none => simp [hg, callV] at ho
          | some r =>
            simp only [hg, Option.some.injEq, Prod.mk.injEq] at ho
            obtain ⟨rfl, rfl⟩ := ho
            refine ⟨⟨rfl, fun H2 h2 => ?_⟩, ?_, _, off, by simp [Op.operands], hb⟩
            · have : H2.val b = some u := by unfold Heap.val at hv ⊢; rw [h2]; exact hv
              simp only [this, hg]
            · unfold Heap.val at hv
              cases hgb : h.get b with
              | none => rw [hgb] at hv; cases hv
              | some B => exact ⟨B, rfl⟩
    · cases he
  · split at he <;> cases he
  · repeat' (split at he) <;> first | (cases he; done) | skip
  · split at he <;> cases he
theorem ev_store {b : Nat} {H1 : Heap} (hp : pureV C fr o.type o.op = none) (ho : opV S C fr h o = some (v, h1)) (he : evOf C fr H1 h1 o.op = .store b) :
    (∃ B B', h.get b = some B ∧ h1 = h.put b B' ∧ ∀ H2 : Heap, H2.get b = h.get b → opV S C fr H2 o = some (v, H2.put b B')) ∧ ∃ x off, x ∈ o.op.operands ∧ evV C fr x = some (.ptr b off) := by
  unfold opV at ho ⊢
  simp only [hp] at ho ⊢
  unfold evOf at he
  split at he
  · split at he <;> cases he
  · rename_i t x y hop
    split at he
    · rename_i b' off hb
      cases he
      rw [hop] at ho
      simp only [hop]
      simp only [opH, ohConvert, ohLoad, ohStore, ohAlloc, ohBox, ohBuildslice, ohMakeslice, ohAppend, ohCopy, ohSlice, ohMakemap, ohLookup, ohMapupdate, ohMapentry, ohEntrystore, ohClearA, ohClear, ohClearS, ohLenM, hb] at ho ⊢
      cases hy : evV C fr y with
      | none => simp [hy, callV] at ho
      | some u =>
        simp only [hy] at ho ⊢
        cases ht : C.ty t with
        | none => simp [ht, callV] at ho
        | some i =>
          simp only [ht] at ho ⊢
          cases hg : h.get b with
          | none => simp [hg, callV] at ho
          | some B =>
            simp only [hg] at ho ⊢
            cases B with
            | cells ty u' =>
              cases hz : Nat.beq u.size i.size with
              | false => simp [hz, callV] at ho
              | true =>
                simp only [hz] at ho ⊢
                cases hq : putAt 50 u' off u with
                | none => simp [hq, callV] at ho
                | some v' =>
                  simp only [hq, Option.some.injEq, Prod.mk.injEq] at ho
                  obtain ⟨rfl, rfl⟩ := ho
                  exact ⟨⟨_, _, rfl, rfl, fun H2 h2 => by simp only [h2, hq]⟩, _, off, by simp [Op.operands], hb⟩
            | _ => simp [callV] at ho
    · cases he
  · repeat' (split at he) <;> first | (cases he; done) | skip
  · split at he <;> cases he
theorem ev_gen {H1 : Heap} (he : evOf C fr H1 h1 o.op = .gen) : H1.next ≤ h1.wmin := by
  unfold evOf at he
  split at he
  · split at he <;> cases he
  · split at he <;> cases he
  · split at he
    · rename_i hb; exact Nat.le_of_ble_eq_true hb
    · repeat' (split at he) <;> first | (cases he; done) | skip
  · split at he
    · rename_i hb; exact Nat.le_of_ble_eq_true hb
    · cases he
/-- an append turns the slice's own block alone -/
theorem app_keep {ts tx : TypeId} {b base off len esz : Nat} {lim : Option Nat} {x v : V} {h h1 : Heap} (ha : appendV C h ts tx (.sl b base off len esz lim) x = some (v, h1)) {i : Nat} (hi : i ≠ b) (hlt : i < h.next) : h1.get i = h.get i := by
  have hpush : ∀ B, (h.push B).get i = h.get i := fun B => by rw [Heap.get_push, if_neg (by omega)]
  unfold appendV at ha
  repeat' (split at ha)
  all_goals first | (cases ha; done) | skip
  all_goals first
    | (cases ha; rfl)
    | (cases ha; exact hpush _)
    | (cases ha; rw [Heap.get_put, if_neg]; exact fun e => hi (by simp_all))
    | (cases ha; rw [Heap.get_kill, if_neg]; exact hpush _; exact fun e => hi (by simp_all))
    | simp_all
theorem ev_upd {b : Nat} {H1 : Heap} (hp : pureV C fr o.type o.op = none) (ho : opV S C fr h o = some (v, h1)) (he : evOf C fr H1 h1 o.op = .upd b) {i : Nat} (hi : i ≠ b) (hlt : i < h.next) : h1.get i = h.get i := by
  unfold opV at ho
  simp only [hp] at ho
  unfold evOf at he
  split at he
  · split at he <;> cases he
  · split at he <;> cases he
  · rename_i xs ats hop
    rw [hop] at ho
    split at he
    · cases he
    · split at he
      · rename_i x y hxs
        split at he
        · rename_i b' base off len esz lim hb
          cases he
          simp only [opH, ohAppend] at ho
          split at ho
          · rename_i r hr
            cases ho
            split at hr
            · rename_i x' y' ts tx h1' h2'
              rw [hxs] at h1'
              cases h1'
              split at hr
              · rename_i s u hs hu
                rw [hb] at hs
                cases hs
                exact app_keep hr hi hlt
              · cases hr
            · cases hr
          · simp [callV] at ho
        · cases he
      · cases he
  · split at he <;> cases he
theorem mono_wmin {n : Nat} (m1 : Mono { h with wmin := h.next } h1) (hn : n ≤ h.wmin) (hm : n ≤ h1.wmin) : Mono h { h1 with wmin := n } :=
  ⟨m1.nxt, fun hw => m1.wf hw, hn, fun i hi hj => m1.keep i hi (Nat.lt_of_lt_of_le hj hm)⟩
theorem StepAt.mono (hS : SelfOK P C S) (st : StepAt S C ops o fr h v h' x) : Mono h h' := by
  rcases st with ⟨_, _, rfl, _⟩ | ⟨_, st⟩
  · exact Mono.refl _
  · rcases stepF_cases st with ⟨_, rfl, _⟩ | ⟨h1, _, ho, rfl, _⟩
    · exact Mono.refl _
    · have := minN_le h.wmin h1.wmin
      exact mono_wmin (opV_mono hS ho) this.1 this.2
/-- a block that an operation turns, or makes -/
noncomputable def Tch (x : Option Ev) (n n' i : Nat) : Prop := (n ≤ i ∧ i < n') ∨ x = some (.store i) ∨ ((x = some .dirty ∨ x = some (.upd i)) ∧ i < n)
theorem StepAt.load {b : Nat} (st : StepAt S C ops o fr h v h' (some (.load b))) : h'.next = h.next := by
  rcases st with ⟨_, _, _, hx⟩ | ⟨_, st⟩
  · cases hx
  · rcases stepF_cases st with ⟨_, _, hx⟩ | ⟨h1, hp, ho, rfl, hx⟩
    · cases hx
    · obtain ⟨⟨e, _⟩, _⟩ := ev_load hp ho (by injection hx with hx; exact hx.symm)
      rw [e]
theorem StepAt.store {b : Nat} (st : StepAt S C ops o fr h v h' (some (.store b))) : h'.next = h.next ∧ ∃ B, h.get b = some B := by
  rcases st with ⟨_, _, _, hx⟩ | ⟨_, st⟩
  · cases hx
  · rcases stepF_cases st with ⟨_, _, hx⟩ | ⟨h1, hp, ho, rfl, hx⟩
    · cases hx
    · obtain ⟨⟨B, B', e1, e2, _⟩, _⟩ := ev_store hp ho (by injection hx with hx; exact hx.symm)
      exact ⟨by rw [e2]; rfl, B, e1⟩
theorem StepAt.still (st : StepAt S C ops o fr h v h' none) : h' = h := by
  rcases st with ⟨_, _, hx, _⟩ | ⟨_, st⟩
  · exact hx
  · rcases stepF_cases st with ⟨_, hx, _⟩ | ⟨h1, _, _, _, hx⟩
    · exact hx
    · cases hx
theorem StepAt.keep (hS : SelfOK P C S) (st : StepAt S C ops o fr h v h' x) (hwf : ∀ i, h.next ≤ i → h.get i = none) {i : Nat} (hi : ¬ Tch x h.next h'.next i) : h'.get i = h.get i := by
  have hm := st.mono hS
  by_cases hge : h'.next ≤ i
  · rw [hm.wf hwf i hge, hwf i (Nat.le_trans hm.nxt hge)]
  · have hlt : i < h.next := by
      rcases Nat.lt_or_ge i h.next with h2 | h2
      · exact h2
      · exact absurd (.inl ⟨h2, by omega⟩) hi
    rcases st with ⟨_, _, rfl, _⟩ | ⟨_, st⟩
    · rfl
    · rcases stepF_cases st with ⟨_, rfl, _⟩ | ⟨h1, hp, ho, rfl, hx⟩
      · rfl
      · cases he : evOf C fr h h1 o.op with
        | load b => obtain ⟨⟨e, _⟩, _⟩ := ev_load hp ho he; rw [e]; rfl
        | store b =>
          obtain ⟨⟨B, B', _, e, _⟩, _⟩ := ev_store hp ho he
          rw [e]
          show (Heap.put { h with wmin := h.next } b B').get i = h.get i
          rw [Heap.get_put, if_neg]
          · rfl
          · rintro rfl
            exact hi (.inr (.inl (by rw [hx, he])))
        | gen => exact (opV_mono hS ho).keep i hlt (Nat.lt_of_lt_of_le hlt (ev_gen he))
        | dirty => exact absurd (.inr (.inr ⟨.inl (by rw [hx, he]), hlt⟩)) hi
        | upd b =>
          by_cases hib : i = b
          · exact absurd (.inr (.inr ⟨.inr (by rw [hx, he, hib]), hlt⟩)) hi
          · exact ev_upd hp ho he hib hlt
/-- closed under what comes ahead -/
theorem reach_listed {listed : Array Bool} (hcl : ∀ (k : Nat) (o : Oper) (e : Edge), ops[k]? = some o → listed[k]? = some true → e ∈ o.after → Region.binds .any e = true → listed[e.on]? = some true) :
    ∀ (f j k : Nat), reachB ops f j k = true → (∀ o e, ops[j]? = some o → e ∈ o.after → Region.binds .any e = true → listed[e.on]? = some true) → listed[k]? = some true
  | 0, _, _, h, _ => by simp [reachB] at h
  | f + 1, j, k, h, hj => by
    simp only [reachB] at h
    split at h
    · cases h
    · rename_i o ho
      simp only [Array.any_eq_true', Bool.and_eq_true, Bool.or_eq_true] at h
      obtain ⟨e, he, hb, h⟩ := h
      have hl := hj o e ho he hb
      rcases h with h | h
      · rw [← Nat.eq_of_beq_eq_true h]; exact hl
      · exact reach_listed hcl f e.on k h fun o' e' ho' he' hb' => hcl e.on o' e' ho' hl he' hb'
end
/-- from one state to another one, a step in between -/
theorem Nxt.ext {D0 D D' : Nat → Prop} {ρ0 ρ ρ' : Env} {h0 hn hj h1 : Heap} {w0 w w' : World} {U : Nat} (hl0 : ∀ i, D0 i → i < h0.next ∨ U ≤ i) (a : Nxt D0 ρ0 h0 w0 D ρ hn w) (b : Nxt D ρ hj w D' ρ' h1 w') (hU : hn.next ≤ U) (h0j : h0.next ≤ hj.next) (h1n : h1.next ≤ hn.next)
    (hw : hn.wmin ≤ h1.wmin) (hD : ∀ i, D i → ¬ (hj.next ≤ i ∧ i < h1.next)) : Nxt D0 ρ0 h0 w0 D' ρ' hn w' := by
  have hb := b.nxt
  have env : ∀ i, D i → ρ'.b i = ρ.b i := fun i hi => (b.env i (by have := hD i hi; omega)).1
  have old : ∀ j, D j → h1.wmin ≤ j → j < hj.next → w0.heap.size ≤ ρ.b j ∨ ∃ k, D0 k ∧ hn.wmin ≤ k ∧ k < h0.next ∧ ρ0.b k = ρ.b j := fun j hj hwj hlt => by
    rcases a.new j hj with h | ⟨h, h'⟩
    · rcases hl0 j h with h3 | h3
      · exact .inr ⟨j, h, Nat.le_trans hw hwj, h3, (a.env j (.inl h3)).1.symm⟩
      · omega
    · exact a.fresh j hj h h'
  refine ⟨fun i hi => b.sub i (a.sub i hi), fun i hi => ?_, fun i hi => ?_, fun c hc hno => ?_, fun i hi hn' hlt => ?_, Nat.le_trans a.size b.size, a.wmin, a.nxt, b.os.trans a.os, b.tape.trans a.tape, b.output.trans a.output⟩
  · rcases b.new i hi with h | ⟨h, h'⟩
    · exact a.new i h
    · exact .inr ⟨by omega, by omega⟩
  · obtain ⟨g1, g2, g3, g4⟩ := a.env i hi
    obtain ⟨k1, k2, k3, k4⟩ := b.env i (by omega)
    exact ⟨k1.trans g1, k2.trans g2, k3.trans g3, k4.trans g4⟩
  · rw [b.frame c (Nat.lt_of_lt_of_le hc a.size) fun i hi hwi hlt e => ?_]
    · exact a.frame c hc hno
    · rcases old i hi hwi hlt with h | ⟨k, k1, k2, k3, k4⟩
      · omega
      · exact hno k k1 k2 k3 (k4.trans e)
  · rcases b.new i hi with h | ⟨h, h'⟩
    · rw [env i h]; exact a.fresh i h hn' hlt
    · rcases b.fresh i hi h h' with h2 | ⟨j, j1, j2, j3, j4⟩
      · exact .inl (Nat.le_trans a.size h2)
      · rw [← j4]; exact old j j1 j2 j3
theorem Rel.on {s0 : World} {U U' : Nat} {D : Nat → Prop} {ρ : Env} {h h' : Heap} {w : World} (r : Rel s0 U D ρ h w) (hl : ∀ i, D i → i < h'.next ∨ U' ≤ i) (hwf : ∀ i, h'.next ≤ i → h'.get i = none) (hg : ∀ i b, D i → h'.get i = some b → h.get i = some b) : Rel s0 U' D ρ h' w :=
  ⟨hl, hwf, fun i b hi hb => r.has i b hi (hg i b hi hb), fun i b hi hb => r.clo i b hi (hg i b hi hb), fun i j b c hi hj hb hc => r.inj i j b c hi hj (hg i b hi hb) (hg j c hj hc), fun i b hi hb => r.own i b hi (hg i b hi hb), fun i j b c hi hj hb hc => r.old i j b c hi hj (hg i b hi hb) (hg j c hj hc), r.base⟩
end Go.Proofs.YtmlemnbhjbaedaaGreatDoor
